/- Walks: the law FnExactDeskNew. Printed by gen_w26.py. -/
import Derived.Test.YtpbpkdkjjbhjoaaW25
namespace Go.Proofs.Ytpbpkdkjjbhjoaa
set_option linter.unusedVariables false
open Go.RowKit
theorem Two.chg {w w' : World} {g lo hi : Nat} {x y : Value} (h : Two w g x y) (hc : Chg lo hi w w') (hd : g < lo ∨ hi ≤ g) : Two w' g x y :=
  have e := hc.block g h.1 hd
  ⟨Nat.lt_of_lt_of_le h.1 hc.size, (World.cell?_of_block (w := w) (a := ⟨g, 0, none⟩) e).trans h.2.1, (World.cell?_of_block (w := w) (a := ⟨g, 1, none⟩) e).trans h.2.2.1, (World.frozen?_of_block (w := w) (a := ⟨g, 0, none⟩) e).trans h.2.2.2.1, (World.frozen?_of_block (w := w) (a := ⟨g, 1, none⟩) e).trans h.2.2.2.2⟩
theorem Two.dn {w : World} {g : Nat} {x y : Value} (h : Two w g x y) (m : Nat) : Two (w.drewN m) g x y := h
def newR (xs : List Int) : List Int := if mapOk xs then xs else []
theorem newR_len (xs : List Int) : (newR xs).length ≤ 7 := by
  unfold newR; split
  · rename_i h; exact (mapOk_bounds h).2
  · simp
theorem NewOut.get {w w' : World} {xs : List Int} {e : Ending} (h : NewOut w xs e w') : ∃ A n c, e = .returned (.tuple #[.agg #[.slice A n c, .slice none 0 0], .bool (mapOk xs)]) ∧ OwnIn w' w.heap.size w'.heap.size A n c (newR xs) ∧ Below w.heap.size w w' := h
set_option maxRecDepth 100000 in
set_option maxHeartbeats 6400000 in
theorem walk_FnExactDeskNew (A : Option Addr) (n c : Nat) (xs : List Int) (w : World) (X0 : Rd w w.heap.size A n c xs) :
    Calls Try.prog 9 #[.slice A n c] w fun e w' => e = .returned (.bool true) ∧ Below w.heap.size w w' := by
  have hcap := X0.cap
  have hmax := X0.max
  unfold maxLen at hmax
  by_cases hbig : 1048576 < n
  · go_enter Try.func9, Try.ntmps9
    go_wp2_with fail
    go_ret
    exact ⟨rfl, Below.refl _ _⟩
  have hself := eqB_self xs
  have hqq : (eqB (newR xs) (newR xs) && eqBB [] []) = true := by rw [eqB_self, eqBB_self]; rfl
  have hR := newR_len xs
  have hn : n ≤ 17592186044416 := by omega
  have hlx := X0.len
  have HB0 := Below.refl w.heap.size w
  go_enter Try.func9, Try.ntmps9
  go_wp2_with fail
  refine (toIntS_c A n c xs _ (X0.up HB0) hn).mono ?_
  rintro e w1 ⟨rfl, ho1, hb1⟩
  have hz1 := hb1.size
  have HB1 := bt HB0 hb1
  clear HB0
  have T1 := ho1.inn
  go_wp2_with fail
  refine (sDeskNew_c _ _ _ xs _ T1.rd).mono ?_
  rintro e w2 hnew
  obtain ⟨A2, n2, c2, rfl, O2, hb2⟩ := hnew.get
  clear hnew
  have hz2 := hb2.size
  have HB2 := bt HB1 hb2
  clear HB1
  have S2 := O2
  have TW3 := Two.made w2 41 (.slice A2 n2 c2) (.slice none 0 0)
  have hb3 : Below w2.heap.size w2 (w2.alloc (.cells #[.slice A2 n2 c2, .slice none 0 0] 41)) := (Below.refl _ _).alloc (Nat.le_refl _) _
  have hz3 := hb3.size
  have HB3 := bt HB2 hb3
  have S3 := S2.up hb3
  clear HB2 S2
  go_wp2_with fail
  generalize w2.alloc (.cells #[.slice A2 n2 c2, .slice none 0 0] 41) = w3 at *
  have hlW := TW3.1
  refine (toIntS_c A n c xs _ (X0.up HB3) hn).mono ?_
  rintro e w4 ⟨rfl, ho4, hb4⟩
  have hz4 := hb4.size
  have HB4 := bt HB3 hb4
  have S4 := S3.up hb4
  have TW4 := TW3.up hb4
  clear HB3 S3 TW3
  have T4 := ho4.inn
  have Y4 := T4
  go_wp2_with fail
  refine (deskNew_c _ _ _ xs _ Y4.rd).mono ?_
  rintro e w5 hnew
  obtain ⟨A5, n5, c5, rfl, O5, hb5⟩ := hnew.get
  clear hnew
  have hz5 := hb5.size
  have HB5 := bt HB4 hb5
  have S5 := S4.up hb5
  have TW5 := TW4.up hb5
  have Y5 := Y4.up hb5
  clear HB4 S4 TW4 Y4
  have G5 := O5
  have TG6 := Two.made w5 41 (.slice A5 n5 c5) (.slice none 0 0)
  have hb6 : Below w5.heap.size w5 (w5.alloc (.cells #[.slice A5 n5 c5, .slice none 0 0] 41)) := (Below.refl _ _).alloc (Nat.le_refl _) _
  have hz6 := hb6.size
  have HB6 := bt HB5 hb6
  have S6 := S5.up hb6
  have TW6 := TW5.up hb6
  have Y6 := Y5.up hb6
  have G6 := G5.up hb6
  clear HB5 S5 TW5 Y5 G5
  obtain ⟨_, qTW0, qTW1, _, _⟩ := id TW6
  go_wp2_with fail
  clear qTW0 qTW1
  generalize w5.alloc (.cells #[.slice A5 n5 c5, .slice none 0 0] 41) = w6 at *
  have hlG := TG6.1
  refine (eqDesk_c A5 none A2 none n5 c5 0 0 n2 c2 0 0 _ _ [] [] _ ⟨G6.rd, RdR.nil_ _ _⟩ ⟨S6.rd, RdR.nil_ _ _⟩).mono ?_
  rintro e w7 ⟨rfl, hb7⟩
  rw [hqq]
  have hz7 := hb7.size
  have HB7 := bt HB6 hb7
  have S7 := S6.up hb7
  have TW7 := TW6.up hb7
  have Y7 := Y6.up hb7
  have G7 := G6.up hb7
  have TG7 := TG6.up hb7
  clear HB6 S6 TW6 Y6 G6 TG6
  go_wp2_with fail
  refine (toIntS_c A n c xs _ (X0.up HB7) hn).mono ?_
  rintro e w8 ⟨rfl, ho8, hb8⟩
  have hz8 := hb8.size
  have HB8 := bt HB7 hb8
  have S8 := S7.up hb8
  have TW8 := TW7.up hb8
  have Y8 := Y7.up hb8
  have G8 := G7.up hb8
  have TG8 := TG7.up hb8
  clear HB7 S7 TW7 Y7 G7 TG7
  have T8 := ho8.inn
  go_wp2_with fail
  refine (eqIntS_c _ _ _ _ _ _ xs xs _ Y8.rd T8.rd).mono ?_
  rintro e w9 ⟨rfl, m9, rfl⟩
  have HB9 := bd HB8 m9
  have S9 := S8.dn m9
  have TW9 := TW8.dn m9
  have Y9 := Y8.dn m9
  have G9 := G8.dn m9
  have TG9 := TG8.dn m9
  clear HB8 S8 TW8 Y8 G8 TG8
  have hz9 : (w8.drewN m9).heap.size = w8.heap.size := rfl
  go_wp2_with fail
  refine (markIntS_c _ _ _ 1 w3.heap.size w4.heap.size xs _ Y9 (by omega)).mono ?_
  rintro e w10 ⟨rfl, Y10, hc10⟩
  have hz10 := hc10.size
  have HB10 := HB9.trans (hc10.below' (B := w.heap.size) (by omega) (by omega))
  have S10 := S9.chg hc10 (.inl (by omega))
  have TW10 := TW9.chg hc10 (.inl (by omega))
  have G10 := G9.chg hc10 (.inr (by omega))
  have TG10 := TG9.chg hc10 (.inr (by omega))
  clear HB9 S9 TW9 G9 TG9
  obtain ⟨_, qTW0, qTW1, _, _⟩ := id TW10
  obtain ⟨_, qTG0, qTG1, _, _⟩ := id TG10
  go_wp2_with fail
  clear qTW0 qTW1 qTG0 qTG1
  refine (eqDesk_c A5 none A2 none n5 c5 0 0 n2 c2 0 0 _ _ [] [] _ ⟨G10.rd, RdR.nil_ _ _⟩ ⟨S10.rd, RdR.nil_ _ _⟩).mono ?_
  rintro e w11 ⟨rfl, hb11⟩
  rw [hqq]
  have hz11 := hb11.size
  have HB11 := bt HB10 hb11
  have S11 := S10.up hb11
  have TW11 := TW10.up hb11
  have G11 := G10.up hb11
  have TG11 := TG10.up hb11
  clear HB10 S10 TW10 G10 TG10
  obtain ⟨_, qTW0, qTW1, _, _⟩ := id TW11
  obtain ⟨_, qTG0, qTG1, _, _⟩ := id TG11
  go_wp2_with fail
  clear qTW0 qTW1 qTG0 qTG1
  refine (markDesk_nil _ _ _ 1 w4.heap.size w5.heap.size _ _ G11 (by have := G11.len; omega) (by omega)).mono ?_
  rintro e w12 ⟨rfl, GN12, hc12⟩
  have hl5 := G11.len
  have hz12 := hc12.size
  have HB12 := HB11.trans (hc12.below' (B := w.heap.size) (by omega) (by omega))
  have S12 := S11.chg hc12 (.inl (by omega))
  have TW12 := TW11.chg hc12 (.inl (by omega))
  have TG12 := TG11.chg hc12 (.inr (by omega))
  clear HB11 S11 TW11 TG11
  have G12 := GN12
  obtain ⟨_, qTW0, qTW1, _, _⟩ := id TW12
  obtain ⟨_, qTG0, qTG1, _, _⟩ := id TG12
  go_wp2_with fail
  clear qTW0 qTW1 qTG0 qTG1
  refine (heldDesk_nil _ _ _ 1 _ G12.rd (by omega)).mono ?_
  rintro e w13 ⟨rfl, hb13⟩
  have hz13 := hb13.size
  have HB13 := bt HB12 hb13
  have S13 := S12.up hb13
  have TW13 := TW12.up hb13
  have TG13 := TG12.up hb13
  have G13 := G12.up hb13
  clear HB12 S12 TW12 TG12 G12
  go_wp2_with fail
  refine (toIntS_c A n c xs _ (X0.up HB13) hn).mono ?_
  rintro e w14 ⟨rfl, ho14, hb14⟩
  have hz14 := hb14.size
  have HB14 := bt HB13 hb14
  have S14 := S13.up hb14
  have TW14 := TW13.up hb14
  have TG14 := TG13.up hb14
  have G14 := G13.up hb14
  clear HB13 S13 TW13 TG13 G13
  have T14 := ho14.inn
  go_wp2_with fail
  refine (deskNew_c _ _ _ xs _ T14.rd).mono ?_
  rintro e w15 hnew
  obtain ⟨A15, n15, c15, rfl, O15, hb15⟩ := hnew.get
  clear hnew
  have hz15 := hb15.size
  have HB15 := bt HB14 hb15
  have S15 := S14.up hb15
  have TW15 := TW14.up hb15
  have TG15 := TG14.up hb15
  have G15 := G14.up hb15
  clear HB14 S14 TW14 TG14 G14
  have TH16 := Two.made w15 41 (.slice A15 n15 c15) (.slice none 0 0)
  have hb16 : Below w15.heap.size w15 (w15.alloc (.cells #[.slice A15 n15 c15, .slice none 0 0] 41)) := (Below.refl _ _).alloc (Nat.le_refl _) _
  have hz16 := hb16.size
  have HB16 := bt HB15 hb16
  have S16 := S15.up hb16
  have TW16 := TW15.up hb16
  have TG16 := TG15.up hb16
  have G16 := G15.up hb16
  clear HB15 S15 TW15 TG15 G15
  have H16 := O15.up hb16
  obtain ⟨_, qTW0, qTW1, _, _⟩ := id TW16
  obtain ⟨_, qTG0, qTG1, _, _⟩ := id TG16
  go_wp2_with fail
  clear qTW0 qTW1 qTG0 qTG1
  generalize w15.alloc (.cells #[.slice A15 n15 c15, .slice none 0 0] 41) = w16 at *
  refine (eqDesk_c A15 none A2 none n15 c15 0 0 n2 c2 0 0 _ _ [] [] _ ⟨H16.rd, RdR.nil_ _ _⟩ ⟨S16.rd, RdR.nil_ _ _⟩).mono ?_
  rintro e w17 ⟨rfl, hb17⟩
  rw [hqq]
  have hz17 := hb17.size
  have HB17 := bt HB16 hb17
  have S17 := S16.up hb17
  have TW17 := TW16.up hb17
  have TG17 := TG16.up hb17
  have G17 := G16.up hb17
  have TH17 := TH16.up hb17
  have H17 := H16.up hb17
  clear HB16 S16 TW16 TG16 G16 TH16 H16
  obtain ⟨_, qTG0, qTG1, _, _⟩ := id TG17
  go_wp2_with fail
  clear qTG0 qTG1
  refine (heldDesk_nil _ _ _ 1 _ G17.rd (by omega)).mono ?_
  rintro e w18 ⟨rfl, hb18⟩
  have HB18 := bt HB17 hb18
  go_wp2_with fail
  go_ret
  exact ⟨rfl, HB18⟩
end Go.Proofs.Ytpbpkdkjjbhjoaa
