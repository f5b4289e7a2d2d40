/- Bundle VI. -/
import Derived.Test.YtoinlkdmfclnbaaGreatDoorYVG
import Derived.Test.YtoinlkdmfclnbaaGreatDoorYVH
namespace Go.Proofs.YtoinlkdmfclnbaaGreatDoor
set_option linter.unusedVariables false
section
open Go.RowKit
theorem lt10 {k : Nat} (h : k < 10) : k = 0 ∨ k = 1 ∨ k = 2 ∨ k = 3 ∨ k = 4 ∨ k = 5 ∨ k = 6 ∨ k = 7 ∨ k = 8 ∨ k = 9 := by omega
theorem qD_has {k : Nat} (h : k < 10) : Maps.has (qD 10) (.string (qW k)) = true := by
 rcases lt10 h with rfl | rfl | rfl | rfl | rfl | rfl | rfl | rfl | rfl | rfl <;> rfl
theorem qD_at {k : Nat} (h : k < 10) (z : DataW Unit) : (qD 10).atKey (.string (qW k)) z = .lit (.int .i64 (qF k : Int)) := by
 rcases lt10 h with rfl | rfl | rfl | rfl | rfl | rfl | rfl | rfl | rfl | rfl <;> rfl
theorem qD_no {l : List UInt8} (h : ∀ k, k < 10 → l ≠ qW k) : ∀ n, n ≤ 10 → Maps.has (qD n) (.string l) = false
 | 0, _ => rfl
 | n + 1, hn => by
  rw [qD, Maps.has_put_other (fun e => h n (by omega) (by injection e))]
  exact qD_no h n (by omega)
theorem qk_c {f : List Nat} (hf : MapN f) (k : Nat) (hk : k < 10) (A P : Option Addr) (c m d : Nat) (w : World) (h : Rd w w.heap.size A f.length c (ints f)) (hg : Glo w) :
    Calls Tryz.prog (qF k) #[.agg #[.slice A f.length c, .slice P m d]] w (Txt w (ask f k)) := by
 rcases lt10 hk with rfl | rfl | rfl | rfl | rfl | rfl | rfl | rfl | rfl | rfl
 · exact q0_c hf A P c m d w h hg
 · exact q1_c hf A P c m d w h hg
 · exact q2_c hf A P c m d w h hg
 · exact q3_c hf A P c m d w h hg
 · exact q4_c hf A P c m d w h hg
 · exact q5_c hf A P c m d w h hg
 · exact q6_c hf A P c m d w h hg
 · exact q7_c hf A P c m d w h hg
 · exact q8_c hf A P c m d w h hg
 · exact q9_c hf A P c m d w h hg
theorem qEnter {k : Nat} (hk : k < 10) : ∀ args w, (callFunc (qF k) args).run Tryz.prog w = .ok (.enter (qF k) args) w := by
 rcases lt10 hk with rfl | rfl | rfl | rfl | rfl | rfl | rfl | rfl | rfl | rfl
 · exact enters_of Tryz.func105 (by kernel_rfl) rfl
 · exact enters_of Tryz.func106 (by kernel_rfl) rfl
 · exact enters_of Tryz.func107 (by kernel_rfl) rfl
 · exact enters_of Tryz.func108 (by kernel_rfl) rfl
 · exact enters_of Tryz.func109 (by kernel_rfl) rfl
 · exact enters_of Tryz.func110 (by kernel_rfl) rfl
 · exact enters_of Tryz.func111 (by kernel_rfl) rfl
 · exact enters_of Tryz.func112 (by kernel_rfl) rfl
 · exact enters_of Tryz.func113 (by kernel_rfl) rfl
 · exact enters_of Tryz.func114 (by kernel_rfl) rfl
set_option maxRecDepth 100000 in
set_option maxHeartbeats 3200000 in
theorem lineQ_c {f : List Nat} (hf : MapN f) (A P : Option Addr) (c m d : Nat) (yss : List (List Int)) (s : ByteArray) (w : World) (h : RdD w w.heap.size A f.length c (ints f) P m d yss) (hok : deskOkB (ints f) yss = true) (hg : Glo w) (hs : s.size ≤ 2000000) (hr : rdV s.data.toList = ((0, 0, 0, []), false)) (k : Nat) (hk : k < 10) (hq : s.data.toList = qW k) :
    Calls Tryz.prog 9 #[.agg #[.slice A f.length c, .slice P m d], .string s] w (LineO w (ints f) yss (bl (ask f k))) := by
 have HHAS : Maps.has (qD 10) (.string s.data.toList) = true := by rw [hq]; exact qD_has hk
 have HAT : Hid ((qD 10).atKey (.string s.data.toList) (.lit (.bool false)) = .lit (.int .i64 (qF k : Int))) := Lib.hid (by rw [hq]; exact qD_at hk _)
 have KQ := fun W (hW : Rd W W.heap.size A f.length c (ints f)) (hG : Glo W) => qk_c hf k hk A P c m d W hW hG
 unfold Txt at KQ
 have hent := qEnter hk
 obtain ⟨T9, hT9⟩ : ∃ T, bl (ask f k) = T := ⟨_, rfl⟩
 have HTE := Lib.hid hT9
 rw [hT9]
 change ∀ W, Rd W W.heap.size A f.length c (ints f) → Glo W → Calls _ _ _ W (fun e w' => e = Ending.returned (.string (bl (ask f k))) ∧ Below W.heap.size W w') at KQ
 rw [hT9] at KQ
 clear hT9 hq
 have h7 := hf.le7
 have h1p := hf.pos
 have hfit := (desk_fit hok).2.2
 have hW : Below w.heap.size w ((w.alloc (.cells #[.slice A f.length c, .slice P m d] 26)).alloc (.cells #[.slice none 0 0, .slice none 0 0] 26)) := ((Below.refl _ _).alloc (Nat.le_refl _) _).alloc (by simp) _
 have h1 := h.up hW
 have hr1 := Two.made (w.alloc (.cells #[.slice A f.length c, .slice P m d] 26)) 26 (.slice none 0 0) (.slice none 0 0)
 have ha := (Two.made w 26 (.slice A f.length c) (.slice P m d)).alloc (.cells #[.slice none 0 0, .slice none 0 0] 26)
 simp only [World.size_alloc] at hr1
 have K1 := deskOk_c A P f.length c m d (ints f) yss _ h1
 rw [hok] at K1
 have KS := Maps.string_keyed Tryz.underlying9
 have hkey := key_of s (by unfold maxLen; omega)
 go_enter Tryz.func9, Tryz.ntmps9
 go_wp2_with fail
 generalize ((w.alloc (.cells #[.slice A f.length c, .slice P m d] 26)).alloc (.cells #[.slice none 0 0, .slice none 0 0] 26)) = w1 at *
 refine K1.mono ?_
 rintro e w2 ⟨rfl, hb2⟩
 have h2 := h1.up hb2
 have hr2 := hr1.up hb2
 have ha2 := ha.up hb2
 have hB2 := bt hW hb2
 have hg2 := hg.up hB2
 have K3 := readDeed_c s w2 hs hg2
 rw [hr] at K3
 unfold RdOut at K3
 simp only at K3
 clear K1 h1 hr1 ha hW hb2 hg2
 go_wp2_with fail
 refine K3.mono ?_
 rintro e w3 ⟨rfl, hb3⟩
 have hbA := below_new w3 (.cells #[.int .i64 0, .int .i64 0, .int .i64 0, .string (bl [])] 55)
 have h4 := (h2.up hb3).up hbA
 have hr4 := (hr2.up hb3).up hbA
 have ha4 := (ha2.up hb3).up hbA
 have hB4 := bt (bt hB2 hb3) hbA
 clear K3 h2 hr2 ha2 hB2 hb3 hbA
 go_wp2_with fail
 generalize w3.alloc (.cells #[.int .i64 0, .int .i64 0, .int .i64 0, .string (bl [])] 55) = w4 at *
 refine (questions_c w4).mono ?_
 rintro e w9 ⟨b5, rfl, hM5, hb5⟩
 have D9 := h4.up hb5
 have R9 := hr4.up hb5
 have T5 := ha4.up hb5
 have B9 := bt hB4 hb5
 have hg9 := hg.up B9
 obtain ⟨v9, ps9, hrun9, hRv9⟩ := hM5.look_ok KS Tryz.underlying71 (Tryz.zeroValue69 w9) (zd := .lit (.bool false)) (zp := []) rfl hkey
 rw [HHAS] at hrun9
 clear h4 hr4 ha4 hB4 hb5 hM5
 rw [HAT.out] at hRv9
 obtain rfl := RF_inv hRv9
 clear hRv9
 obtain ⟨a9z, a90, a91, _, _⟩ := id T5
 generalize qF k = FK at *
 go_upto_region 11 with fail
 have KC : Hid (∀ W, Below w9.heap.size w9 W → World.cell? W ⟨w.heap.size, 0, none⟩ = some (.slice A f.length c) ∧ World.cell? W ⟨w.heap.size, 1, none⟩ = some (.slice P m d)) := Lib.hid (fun W h => ⟨(h.cell (p := ⟨w.heap.size, 0, none⟩) a9z).trans a90, (h.cell (p := ⟨w.heap.size, 1, none⟩) a9z).trans a91⟩)
 have C0 : Hid (Below w9.heap.size w9 w9.drew) := Lib.hid (bd (Below.refl _ _) 1)
 refine wp_region_held_drew (S := fun W => World.cell? W ⟨w.heap.size, 0, none⟩ = some (.slice A f.length c) ∧ World.cell? W ⟨w.heap.size, 1, none⟩ = some (.slice P m d)) (by kernel_rfl) (KC.out _ C0.out) (fun hHeld => ?_)
 refine wpAnyH_take (i := 0) (v := ?v1_0) rfl (by kernel_rfl) (by kernel_rfl) (by kernel_rfl) (fun _ _ _ h => h) (Or.inl ⟨by rfl, ?hy1_0⟩) hHeld ?_
 case hy1_0 => (intro w hSw; (try dsimp only at hSw); go_simp; first | done | with_reducible rfl)
 simp only [Act.put, List.setIfInBounds_toArray, List.set_cons_zero, List.set_cons_succ, List.getElem_toArray, List.getElem_cons_zero]
 refine wpAnyH_take (i := 2) (v := ?v1_2) rfl (by kernel_rfl) (by kernel_rfl) (by kernel_rfl) (fun _ _ _ h => h) (Or.inl ⟨by rfl, ?hy1_2⟩) hHeld ?_
 case hy1_2 => (intro w hSw; (try dsimp only at hSw); go_simp; first | done | with_reducible rfl)
 simp only [Act.put, List.setIfInBounds_toArray, List.set_cons_zero, List.set_cons_succ, List.getElem_toArray, List.getElem_cons_zero, List.getElem_cons_succ]
 refine wpAnyH_take (i := 3) (v := ?v1_3) rfl (by kernel_rfl) (by kernel_rfl) (by kernel_rfl) (fun _ _ _ h => h) (Or.inl ⟨by rfl, ?hy1_3⟩) hHeld ?_
 case hy1_3 => (intro w hSw; (try dsimp only at hSw); go_simp; first | done | with_reducible rfl)
 simp only [Act.put, List.setIfInBounds_toArray, List.set_cons_zero, List.set_cons_succ, List.getElem_toArray, List.getElem_cons_zero, List.getElem_cons_succ]
 refine wpAnyH_ready (rs := [1]) (by kernel_rfl) (by simp) ?_
 refine AllReadyH.cons rfl (fun K hK => ?_) AllReadyH.nil
 (try simp only [List.getElem_toArray, List.getElem_cons_zero, List.getElem_cons_succ])
 go_simp
 refine (copied_c A P f.length c m d (ints f) yss _ (D9.up_ C0.out) (by omega) (by omega) hfit).mono ?_
 rintro e x1 ⟨A1, n1, c1, P1, m1, d1, rfl, hO1, hx1⟩
 have C1 := Lib.hid (show Below w9.heap.size w9 x1 from bt C0.out hx1)
 have HO1 := Lib.hid hO1
 have hz1 := hx1.size
 have hzc := C0.out.size
 clear hO1 hx1
 go_wp2_with fail
 refine hK.out _ _ (KC.out _ C1.out) (fun hHeld => ?_)
 clear hK K
 (try simp only [Act.put, List.setIfInBounds_toArray, List.set_cons_zero, List.set_cons_succ])
 refine wpAnyH_ready (rs := [4]) (by kernel_rfl) (by simp) ?_
 refine AllReadyH.cons rfl (fun K hK => ?_) AllReadyH.nil
 (try simp only [List.getElem_toArray, List.getElem_cons_zero, List.getElem_cons_succ])
 go_simp
 refine (KQ _ (D9.1.up C1.out) (hg9.up C1.out)).mono ?_
 rintro e x2 ⟨rfl, hx2⟩
 have C2 := Lib.hid (show Below w9.heap.size w9 x2 from bt C1.out hx2)
 have HO2 := Lib.hid (HO1.out.up hx2)
 have R2 := R9.up C2.out
 have hz2 := hx2.size
 have hlo2 := C1.out.size
 have hdz : w9.drew.heap.size = w9.heap.size := rfl
 have hr9z := R9.1
 obtain ⟨_, s0, s1, s2, s3⟩ := id R2
 obtain ⟨HE, HT⟩ := line_end (w := w) T9 R2 HO2.out (by omega) hz2 (bt B9 C2.out)
 have HE := Lib.hid HE
 have HT := Lib.hid HT
 have KF : Hid (World.cell? ((x2.setCell ⟨w.heap.size + 1, 0, none⟩ (.slice A1 n1 c1)).setCell ⟨w.heap.size + 1, 1, none⟩ (.slice P1 m1 d1)) ⟨w.heap.size, 0, none⟩ = some (.slice A f.length c) ∧ World.cell? ((x2.setCell ⟨w.heap.size + 1, 0, none⟩ (.slice A1 n1 c1)).setCell ⟨w.heap.size + 1, 1, none⟩ (.slice P1 m1 d1)) ⟨w.heap.size, 1, none⟩ = some (.slice P m d)) := Lib.hid ⟨farc (by omega) (KC.out _ C2.out).1, farc (by omega) (KC.out _ C2.out).2⟩
 clear hx2 R2 C1
 go_wp2_with fail
 refine hK.out _ _ (KC.out _ C2.out) (fun hHeld => ?_)
 clear hK K
 (try simp only [Act.put, List.setIfInBounds_toArray, List.set_cons_zero, List.set_cons_succ])
 refine wpAnyH_ready (rs := [5]) (by kernel_rfl) (by simp) ?_
 refine AllReadyH.cons rfl (fun K hK => ?_) AllReadyH.nil
 (try simp only [List.getElem_toArray, List.getElem_cons_zero, List.getElem_cons_succ])
 go_simp
 refine hK.out _ _ (KF.out) (fun hHeld => ?_)
 clear hK K
 (try simp only [Act.put, List.setIfInBounds_toArray, List.set_cons_zero, List.set_cons_succ])
 refine wpAnyH_take (i := 6) (v := ?v1_6) rfl (by kernel_rfl) (by kernel_rfl) (by kernel_rfl) (fun _ _ _ h => h) (Or.inl ⟨by rfl, ?hy1_6⟩) hHeld ?_
 case hy1_6 => (intro w hSw; (try dsimp only at hSw); go_simp; first | done | with_reducible rfl)
 simp only [Act.put, List.setIfInBounds_toArray, List.set_cons_zero, List.set_cons_succ, List.getElem_toArray, List.getElem_cons_zero, List.getElem_cons_succ]
 refine wpAnyH_done (by kernel_rfl) ?_ _
 go_wp2_with fail
 (try simp only [Exit.inBlock, Exit.then])
 refine bodyPost_ret (v := .tuple #[.agg #[.slice A1 n1 c1, .slice P1 m1 d1], .string T9]) ?_ rfl HE.out
 exact Eq.trans (results_two_tmp (p := 4) (u := 5) rfl _ _ (w.heap.size + 1) _ _ _ rfl HT.out Tryz.underlying26 rfl desk_size) rfl
set_option maxRecDepth 100000 in
set_option maxHeartbeats 3200000 in
theorem lineW_c {f : List Nat} (hf : MapN f) (A P : Option Addr) (c m d : Nat) (yss : List (List Int)) (s : ByteArray) (w : World) (h : RdD w w.heap.size A f.length c (ints f) P m d yss) (hok : deskOkB (ints f) yss = true) (hg : Glo w) (hs : s.size ≤ 2000000) (hr : rdV s.data.toList = ((0, 0, 0, []), false)) (hq : ∀ k, k < 10 → s.data.toList ≠ qW k) (t : Nat) (hway : wayL s.data.toList = some t) :
    Calls Tryz.prog 9 #[.agg #[.slice A f.length c, .slice P m d], .string s] w (LineO w (ints f) yss (bl (wayT f t))) := by
 have HHAS : Maps.has (qD 10) (.string s.data.toList) = false := qD_no hq 10 (Nat.le_refl _)
 have KQ := fun W (hW : Rd W W.heap.size A f.length c (ints f)) => wayText_c hf t A P c m d W hW
 unfold Txt at KQ
 obtain ⟨T9, hT9⟩ : ∃ T, bl (wayT f t) = T := ⟨_, rfl⟩
 have HTE := Lib.hid hT9
 rw [hT9]
 change ∀ W, Rd W W.heap.size A f.length c (ints f) → Calls _ _ _ W (fun e w' => e = Ending.returned (.string (bl (wayT f t))) ∧ Below W.heap.size W w') at KQ
 rw [hT9] at KQ
 have KW := fun W => wayAsked_c s W (by omega)
 rw [hway] at KW
 unfold WayOut at KW
 simp only at KW
 clear hT9
 have h7 := hf.le7
 have h1p := hf.pos
 have hfit := (desk_fit hok).2.2
 have hW : Below w.heap.size w ((w.alloc (.cells #[.slice A f.length c, .slice P m d] 26)).alloc (.cells #[.slice none 0 0, .slice none 0 0] 26)) := ((Below.refl _ _).alloc (Nat.le_refl _) _).alloc (by simp) _
 have h1 := h.up hW
 have hr1 := Two.made (w.alloc (.cells #[.slice A f.length c, .slice P m d] 26)) 26 (.slice none 0 0) (.slice none 0 0)
 have ha := (Two.made w 26 (.slice A f.length c) (.slice P m d)).alloc (.cells #[.slice none 0 0, .slice none 0 0] 26)
 simp only [World.size_alloc] at hr1
 have K1 := deskOk_c A P f.length c m d (ints f) yss _ h1
 rw [hok] at K1
 have KS := Maps.string_keyed Tryz.underlying9
 have hkey := key_of s (by unfold maxLen; omega)
 go_enter Tryz.func9, Tryz.ntmps9
 go_wp2_with fail
 generalize ((w.alloc (.cells #[.slice A f.length c, .slice P m d] 26)).alloc (.cells #[.slice none 0 0, .slice none 0 0] 26)) = w1 at *
 refine K1.mono ?_
 rintro e w2 ⟨rfl, hb2⟩
 have h2 := h1.up hb2
 have hr2 := hr1.up hb2
 have ha2 := ha.up hb2
 have hB2 := bt hW hb2
 have hg2 := hg.up hB2
 have K3 := readDeed_c s w2 hs hg2
 rw [hr] at K3
 unfold RdOut at K3
 simp only at K3
 clear K1 h1 hr1 ha hW hb2 hg2
 go_wp2_with fail
 refine K3.mono ?_
 rintro e w3 ⟨rfl, hb3⟩
 have hbA := below_new w3 (.cells #[.int .i64 0, .int .i64 0, .int .i64 0, .string (bl [])] 55)
 have h4 := (h2.up hb3).up hbA
 have hr4 := (hr2.up hb3).up hbA
 have ha4 := (ha2.up hb3).up hbA
 have hB4 := bt (bt hB2 hb3) hbA
 clear K3 h2 hr2 ha2 hB2 hb3 hbA
 go_wp2_with fail
 generalize w3.alloc (.cells #[.int .i64 0, .int .i64 0, .int .i64 0, .string (bl [])] 55) = w4 at *
 refine (questions_c w4).mono ?_
 rintro e w9 ⟨b5, rfl, hM5, hb5⟩
 have D9 := h4.up hb5
 have R9 := hr4.up hb5
 have T5 := ha4.up hb5
 have B9 := bt hB4 hb5
 have hg9 := hg.up B9
 obtain ⟨v9, ps9, hrun9, hRv9⟩ := hM5.look_ok KS Tryz.underlying71 (Tryz.zeroValue69 w9) (zd := .lit (.bool false)) (zp := []) rfl hkey
 rw [HHAS] at hrun9
 clear h4 hr4 ha4 hB4 hb5 hM5
 obtain ⟨a9z, a90, a91, _, _⟩ := id T5
 clear hRv9
 go_wp2_with fail
 refine (KW w9).mono ?_
 rintro e w9' ⟨rfl, rfl⟩
 go_upto_region 14 with fail
 have KC : Hid (∀ W, Below w9.heap.size w9 W → World.cell? W ⟨w.heap.size, 0, none⟩ = some (.slice A f.length c) ∧ World.cell? W ⟨w.heap.size, 1, none⟩ = some (.slice P m d)) := Lib.hid (fun W h => ⟨(h.cell (p := ⟨w.heap.size, 0, none⟩) a9z).trans a90, (h.cell (p := ⟨w.heap.size, 1, none⟩) a9z).trans a91⟩)
 have C0 : Hid (Below w9.heap.size w9 w9.drew) := Lib.hid (bd (Below.refl _ _) 1)
 refine wp_region_held_drew (S := fun W => World.cell? W ⟨w.heap.size, 0, none⟩ = some (.slice A f.length c) ∧ World.cell? W ⟨w.heap.size, 1, none⟩ = some (.slice P m d)) (by kernel_rfl) (KC.out _ C0.out) (fun hHeld => ?_)
 refine wpAnyH_take (i := 0) (v := ?v2_0) rfl (by kernel_rfl) (by kernel_rfl) (by kernel_rfl) (fun _ _ _ h => h) (Or.inl ⟨by rfl, ?hy2_0⟩) hHeld ?_
 case hy2_0 => (intro w hSw; (try dsimp only at hSw); go_simp; first | done | with_reducible rfl)
 simp only [Act.put, List.setIfInBounds_toArray, List.set_cons_zero, List.set_cons_succ, List.getElem_toArray, List.getElem_cons_zero]
 refine wpAnyH_take (i := 2) (v := ?v2_2) rfl (by kernel_rfl) (by kernel_rfl) (by kernel_rfl) (fun _ _ _ h => h) (Or.inl ⟨by rfl, ?hy2_2⟩) hHeld ?_
 case hy2_2 => (intro w hSw; (try dsimp only at hSw); go_simp; first | done | with_reducible rfl)
 simp only [Act.put, List.setIfInBounds_toArray, List.set_cons_zero, List.set_cons_succ, List.getElem_toArray, List.getElem_cons_zero, List.getElem_cons_succ]
 refine wpAnyH_take (i := 3) (v := ?v2_3) rfl (by kernel_rfl) (by kernel_rfl) (by kernel_rfl) (fun _ _ _ h => h) (Or.inl ⟨by rfl, ?hy2_3⟩) hHeld ?_
 case hy2_3 => (intro w hSw; (try dsimp only at hSw); go_simp; first | done | with_reducible rfl)
 simp only [Act.put, List.setIfInBounds_toArray, List.set_cons_zero, List.set_cons_succ, List.getElem_toArray, List.getElem_cons_zero, List.getElem_cons_succ]
 refine wpAnyH_ready (rs := [1]) (by kernel_rfl) (by simp) ?_
 refine AllReadyH.cons rfl (fun K hK => ?_) AllReadyH.nil
 (try simp only [List.getElem_toArray, List.getElem_cons_zero, List.getElem_cons_succ])
 go_simp
 refine (copied_c A P f.length c m d (ints f) yss _ (D9.up_ C0.out) (by omega) (by omega) hfit).mono ?_
 rintro e x1 ⟨A1, n1, c1, P1, m1, d1, rfl, hO1, hx1⟩
 have C1 := Lib.hid (show Below w9.heap.size w9 x1 from bt C0.out hx1)
 have HO1 := Lib.hid hO1
 have hz1 := hx1.size
 have hzc := C0.out.size
 clear hO1 hx1
 go_wp2_with fail
 refine hK.out _ _ (KC.out _ C1.out) (fun hHeld => ?_)
 clear hK K
 (try simp only [Act.put, List.setIfInBounds_toArray, List.set_cons_zero, List.set_cons_succ])
 refine wpAnyH_ready (rs := [4]) (by kernel_rfl) (by simp) ?_
 refine AllReadyH.cons rfl (fun K hK => ?_) AllReadyH.nil
 (try simp only [List.getElem_toArray, List.getElem_cons_zero, List.getElem_cons_succ])
 go_simp
 refine (KQ _ (D9.1.up C1.out)).mono ?_
 rintro e x2 ⟨rfl, hx2⟩
 have C2 := Lib.hid (show Below w9.heap.size w9 x2 from bt C1.out hx2)
 have HO2 := Lib.hid (HO1.out.up hx2)
 have R2 := R9.up C2.out
 have hz2 := hx2.size
 have hlo2 := C1.out.size
 have hdz : w9.drew.heap.size = w9.heap.size := rfl
 have hr9z := R9.1
 obtain ⟨_, s0, s1, s2, s3⟩ := id R2
 obtain ⟨HE, HT⟩ := line_end (w := w) T9 R2 HO2.out (by omega) hz2 (bt B9 C2.out)
 have HE := Lib.hid HE
 have HT := Lib.hid HT
 have KF : Hid (World.cell? ((x2.setCell ⟨w.heap.size + 1, 0, none⟩ (.slice A1 n1 c1)).setCell ⟨w.heap.size + 1, 1, none⟩ (.slice P1 m1 d1)) ⟨w.heap.size, 0, none⟩ = some (.slice A f.length c) ∧ World.cell? ((x2.setCell ⟨w.heap.size + 1, 0, none⟩ (.slice A1 n1 c1)).setCell ⟨w.heap.size + 1, 1, none⟩ (.slice P1 m1 d1)) ⟨w.heap.size, 1, none⟩ = some (.slice P m d)) := Lib.hid ⟨farc (by omega) (KC.out _ C2.out).1, farc (by omega) (KC.out _ C2.out).2⟩
 clear hx2 R2 C1
 go_wp2_with fail
 refine hK.out _ _ (KC.out _ C2.out) (fun hHeld => ?_)
 clear hK K
 (try simp only [Act.put, List.setIfInBounds_toArray, List.set_cons_zero, List.set_cons_succ])
 refine wpAnyH_ready (rs := [5]) (by kernel_rfl) (by simp) ?_
 refine AllReadyH.cons rfl (fun K hK => ?_) AllReadyH.nil
 (try simp only [List.getElem_toArray, List.getElem_cons_zero, List.getElem_cons_succ])
 go_simp
 refine hK.out _ _ (KF.out) (fun hHeld => ?_)
 clear hK K
 (try simp only [Act.put, List.setIfInBounds_toArray, List.set_cons_zero, List.set_cons_succ])
 refine wpAnyH_take (i := 6) (v := ?v2_6) rfl (by kernel_rfl) (by kernel_rfl) (by kernel_rfl) (fun _ _ _ h => h) (Or.inl ⟨by rfl, ?hy2_6⟩) hHeld ?_
 case hy2_6 => (intro w hSw; (try dsimp only at hSw); go_simp; first | done | with_reducible rfl)
 simp only [Act.put, List.setIfInBounds_toArray, List.set_cons_zero, List.set_cons_succ, List.getElem_toArray, List.getElem_cons_zero, List.getElem_cons_succ]
 refine wpAnyH_done (by kernel_rfl) ?_ _
 go_wp2_with fail
 (try simp only [Exit.inBlock, Exit.then])
 refine bodyPost_ret (v := .tuple #[.agg #[.slice A1 n1 c1, .slice P1 m1 d1], .string T9]) ?_ rfl HE.out
 exact Eq.trans (results_two_tmp (p := 4) (u := 5) rfl _ _ (w.heap.size + 1) _ _ _ rfl HT.out Tryz.underlying26 rfl desk_size) rfl
set_option maxRecDepth 100000 in
set_option maxHeartbeats 3200000 in
theorem lineN_c {f : List Nat} (hf : MapN f) (A P : Option Addr) (c m d : Nat) (yss : List (List Int)) (s : ByteArray) (w : World) (h : RdD w w.heap.size A f.length c (ints f) P m d yss) (hok : deskOkB (ints f) yss = true) (hg : Glo w) (hs : s.size ≤ 2000000) (hr : rdV s.data.toList = ((0, 0, 0, []), false)) (hq : ∀ k, k < 10 → s.data.toList ≠ qW k) (hway : wayL s.data.toList = none) :
    Calls Tryz.prog 9 #[.agg #[.slice A f.length c, .slice P m d], .string s] w (LineO w (ints f) yss (bl ([119, 104, 97, 116]))) := by
 have HHAS : Maps.has (qD 10) (.string s.data.toList) = false := qD_no hq 10 (Nat.le_refl _)
 have KW := fun W => wayAsked_c s W (by omega)
 rw [hway] at KW
 unfold WayOut at KW
 simp only at KW
 have h7 := hf.le7
 have h1p := hf.pos
 have hfit := (desk_fit hok).2.2
 have hW : Below w.heap.size w ((w.alloc (.cells #[.slice A f.length c, .slice P m d] 26)).alloc (.cells #[.slice none 0 0, .slice none 0 0] 26)) := ((Below.refl _ _).alloc (Nat.le_refl _) _).alloc (by simp) _
 have h1 := h.up hW
 have hr1 := Two.made (w.alloc (.cells #[.slice A f.length c, .slice P m d] 26)) 26 (.slice none 0 0) (.slice none 0 0)
 have ha := (Two.made w 26 (.slice A f.length c) (.slice P m d)).alloc (.cells #[.slice none 0 0, .slice none 0 0] 26)
 simp only [World.size_alloc] at hr1
 have K1 := deskOk_c A P f.length c m d (ints f) yss _ h1
 rw [hok] at K1
 have KS := Maps.string_keyed Tryz.underlying9
 have hkey := key_of s (by unfold maxLen; omega)
 go_enter Tryz.func9, Tryz.ntmps9
 go_wp2_with fail
 generalize ((w.alloc (.cells #[.slice A f.length c, .slice P m d] 26)).alloc (.cells #[.slice none 0 0, .slice none 0 0] 26)) = w1 at *
 refine K1.mono ?_
 rintro e w2 ⟨rfl, hb2⟩
 have h2 := h1.up hb2
 have hr2 := hr1.up hb2
 have ha2 := ha.up hb2
 have hB2 := bt hW hb2
 have hg2 := hg.up hB2
 have K3 := readDeed_c s w2 hs hg2
 rw [hr] at K3
 unfold RdOut at K3
 simp only at K3
 clear K1 h1 hr1 ha hW hb2 hg2
 go_wp2_with fail
 refine K3.mono ?_
 rintro e w3 ⟨rfl, hb3⟩
 have hbA := below_new w3 (.cells #[.int .i64 0, .int .i64 0, .int .i64 0, .string (bl [])] 55)
 have h4 := (h2.up hb3).up hbA
 have hr4 := (hr2.up hb3).up hbA
 have ha4 := (ha2.up hb3).up hbA
 have hB4 := bt (bt hB2 hb3) hbA
 clear K3 h2 hr2 ha2 hB2 hb3 hbA
 go_wp2_with fail
 generalize w3.alloc (.cells #[.int .i64 0, .int .i64 0, .int .i64 0, .string (bl [])] 55) = w4 at *
 refine (questions_c w4).mono ?_
 rintro e w9 ⟨b5, rfl, hM5, hb5⟩
 have D9 := h4.up hb5
 have R9 := hr4.up hb5
 have T5 := ha4.up hb5
 have B9 := bt hB4 hb5
 have hg9 := hg.up B9
 obtain ⟨v9, ps9, hrun9, hRv9⟩ := hM5.look_ok KS Tryz.underlying71 (Tryz.zeroValue69 w9) (zd := .lit (.bool false)) (zp := []) rfl hkey
 rw [HHAS] at hrun9
 clear h4 hr4 ha4 hB4 hb5 hM5
 obtain ⟨a9z, a90, a91, _, _⟩ := id T5
 clear hRv9
 go_wp2_with fail
 refine (KW w9).mono ?_
 rintro e w9' ⟨rfl, rfl⟩
 go_wp2_with fail
 refine (copied_c A P f.length c m d (ints f) yss _ D9 (by omega) (by omega) hfit).mono ?_
 rintro e x1 ⟨A1, n1, c1, P1, m1, d1, rfl, hO1, hx1⟩
 have R2 := R9.up hx1
 have hr9z := R9.1
 obtain ⟨_, s0, s1, s2, s3⟩ := id R2
 obtain ⟨HE, HT⟩ := line_end (w := w) (bl [119, 104, 97, 116]) R2 hO1 (by omega) (Nat.le_refl _) (bt B9 hx1)
 have HE := Lib.hid HE
 have HT := Lib.hid HT
 clear hx1 R2 hO1
 go_wp2_with fail
 (try simp only [Exit.inBlock, Exit.then])
 refine bodyPost_ret (v := .tuple #[.agg #[.slice A1 n1 c1, .slice P1 m1 d1], .string (bl [119, 104, 97, 116])]) ?_ rfl HE.out
 exact Eq.trans (results_two_tmp (p := 4) (u := 5) rfl _ _ (w.heap.size + 1) _ _ _ rfl HT.out Tryz.underlying26 rfl desk_size) rfl
end
section
open Go.RowKit
def qIx (l : List UInt8) : Option Nat := (List.range 10).find? (fun k => qW k == l)
theorem qIx_some {l : List UInt8} {k : Nat} (h : qIx l = some k) : k < 10 ∧ l = qW k := by
 unfold qIx at h
 have h1 := List.find?_some h
 have h2 := List.mem_of_find?_eq_some h
 rw [List.mem_range] at h2
 exact ⟨h2, (eq_of_beq h1).symm⟩
theorem qIx_none {l : List UInt8} (h : qIx l = none) : ∀ k, k < 10 → l ≠ qW k := fun k hk e => by
 unfold qIx at h
 have := List.find?_eq_none.1 h k (List.mem_range.2 hk)
 rw [e] at this
 simp at this
def whatT : Tx := [119, 104, 97, 116]
def lineT (f : List Nat) (l : List UInt8) : Tx := match qIx l with
 | some k => ask f k
 | none => match wayL l with
  | some t => wayT f t
  | none => whatT
def lnX (xs : List Int) (yss : List (List Int)) (l : List UInt8) : List Int × List (List Int) × ByteArray :=
 if deskOkB xs yss then
  if (rdV l).2 then ((doX xs yss (rdV l).1.1 (rdV l).1.2.1 (rdV l).1.2.2.1 (bl (rdV l).1.2.2.2)).1, (doX xs yss (rdV l).1.1 (rdV l).1.2.1 (rdV l).1.2.2.1 (bl (rdV l).1.2.2.2)).2.1, okT (doX xs yss (rdV l).1.1 (rdV l).1.2.1 (rdV l).1.2.2.1 (bl (rdV l).1.2.2.2)).2.2)
  else (xs, yss, bl (lineT (toN xs) l))
 else ([], [], ⟨#[]⟩)
theorem lnX_no {xs : List Int} {yss : List (List Int)} {l : List UInt8} (h : deskOkB xs yss = false) : lnX xs yss l = ([], [], ⟨#[]⟩) := by unfold lnX; rw [h]; rfl
theorem lnX_deed {xs : List Int} {yss : List (List Int)} {l : List UInt8} {kd a b : Int} {x : List UInt8} (h : deskOkB xs yss = true) (hr : rdV l = ((kd, a, b, x), true)) :
    lnX xs yss l = ((doX xs yss kd a b (bl x)).1, (doX xs yss kd a b (bl x)).2.1, okT (doX xs yss kd a b (bl x)).2.2) := by unfold lnX; rw [h, hr]; rfl
theorem lnX_ask {f : List Nat} {yss : List (List Int)} {l : List UInt8} (h : deskOkB (ints f) yss = true) (hr : rdV l = ((0, 0, 0, []), false)) : lnX (ints f) yss l = (ints f, yss, bl (lineT f l)) := by
 unfold lnX; rw [h, hr, toN_ints]; rfl
set_option maxHeartbeats 800000 in
theorem lineNo_c (A P : Option Addr) (n c m d : Nat) (xs : List Int) (yss : List (List Int)) (s : ByteArray) (w : World) (h : RdD w w.heap.size A n c xs P m d yss) (hok : deskOkB xs yss = false) :
    Calls Tryz.prog 9 #[.agg #[.slice A n c, .slice P m d], .string s] w (LineO w [] [] ⟨#[]⟩) := by
 have hW : Below w.heap.size w ((w.alloc (.cells #[.slice A n c, .slice P m d] 26)).alloc (.cells #[.slice none 0 0, .slice none 0 0] 26)) := ((Below.refl _ _).alloc (Nat.le_refl _) _).alloc (by simp) _
 have h1 := h.up hW
 have hr1 := Two.made (w.alloc (.cells #[.slice A n c, .slice P m d] 26)) 26 (.slice none 0 0) (.slice none 0 0)
 have ha := (Two.made w 26 (.slice A n c) (.slice P m d)).alloc (.cells #[.slice none 0 0, .slice none 0 0] 26)
 simp only [World.size_alloc] at hr1
 have K1 := deskOk_c A P n c m d xs yss _ h1
 rw [hok] at K1
 go_enter Tryz.func9, Tryz.ntmps9
 go_wp2_with fail
 generalize ((w.alloc (.cells #[.slice A n c, .slice P m d] 26)).alloc (.cells #[.slice none 0 0, .slice none 0 0] 26)) = w1 at *
 refine K1.mono ?_
 rintro e w2 ⟨rfl, hb2⟩
 have hr2 := hr1.up hb2
 have hB2 := bt hW hb2
 obtain ⟨_, s0, s1, s2, s3⟩ := id hr2
 have hz := hr2.1
 obtain ⟨HE, HT⟩ := line_end (w := w) ⟨#[]⟩ hr2 (OwnD.zero_ w2 (w.heap.size + 2) (w.heap.size + 2) (Nat.le_refl _)) (Nat.le_refl _) (by omega) hB2
 have HE := Lib.hid HE
 have HT := Lib.hid HT
 clear K1 h1 hr1 ha hW hb2 hr2 hB2
 go_wp2_with fail
 (try simp only [Exit.inBlock, Exit.then])
 refine bodyPost_ret (v := .tuple #[.agg #[.slice none 0 0, .slice none 0 0], .string ⟨#[]⟩]) ?_ rfl HE.out
 exact Eq.trans (results_two_tmp (p := 4) (u := 5) rfl _ _ (w.heap.size + 1) _ _ _ rfl HT.out Tryz.underlying26 rfl desk_size) rfl
theorem line_c (A P : Option Addr) (n c m d : Nat) (xs : List Int) (yss : List (List Int)) (s : ByteArray) (w : World) (h : RdD w w.heap.size A n c xs P m d yss) (hg : Glo w) (hs : s.size ≤ 2000000) :
    Calls Tryz.prog 9 #[.agg #[.slice A n c, .slice P m d], .string s] w (LineO w (lnX xs yss s.data.toList).1 (lnX xs yss s.data.toList).2.1 (lnX xs yss s.data.toList).2.2) := by
 rcases hok : deskOkB xs yss with _ | _
 · rw [lnX_no hok]
   exact lineNo_c A P n c m d xs yss s w h hok
 · rcases rdV_cases s.data.toList with ⟨kd, a, b, x, hr, _, _⟩ | hr
   · rw [lnX_deed hok hr]
     exact deskLine_deed A P n c m d xs yss s kd a b x w h hok hg hs hr
   · obtain ⟨f, rfl, hf⟩ := mapOk_ex (desk_parts hok).1
     obtain rfl : f.length = n := by rw [← h.1.len, ints_len]
     rw [lnX_ask hok hr]
     unfold lineT
     rcases hq : qIx s.data.toList with _ | k
     · rcases hw : wayL s.data.toList with _ | t
       · exact lineN_c hf A P c m d yss s w h hok hg hs hr (qIx_none hq) hw
       · exact lineW_c hf A P c m d yss s w h hok hg hs hr (qIx_none hq) t hw
     · obtain ⟨h10, he⟩ := qIx_some hq
       exact lineQ_c hf A P c m d yss s w h hok hg hs hr k h10 he
end
end Go.Proofs.YtoinlkdmfclnbaaGreatDoor
