/- Bundle VJ. -/
import Derived.Test.YtoinlkdmfclnbaaGreatDoorYV15
import Derived.Test.YtoinlkdmfclnbaaGreatDoorYV9
import Derived.Test.YtoinlkdmfclnbaaGreatDoorYVA
import Derived.Test.YtoinlkdmfclnbaaGreatDoorYVI
namespace Go.Proofs.YtoinlkdmfclnbaaGreatDoor
set_option linter.unusedVariables false
section
open Go.RowKit
theorem sNum_c (n : Nat) (w : World) (h : n ≤ 1000000) : Calls Tryz.prog 51 #[.int .i64 (n : Int)] w fun e w' => e = .returned (.string (decX n)) ∧ Below w.heap.size w w' := l1Number_c n w (by omega)
theorem sMapT_c {f : List Nat} (hf : MapN f) (A : Option Addr) (c : Nat) (w : World) (h : Rd w w.heap.size A f.length c (ints f)) :
    Calls Tryz.prog 50 #[.slice A f.length c] w fun e w' => e = .returned (.string (bl (digT f))) ∧ Below w.heap.size w w' := by
 have := mapText_c A f.length c (ints f) w h
 rwa [mtI_dig hf] at this
theorem sGard_c {f : List Nat} (hf : MapN f) (A : Option Addr) (c : Nat) (w : World) (h : Rd w w.heap.size A f.length c (ints f)) :
    Calls Tryz.prog 58 #[.slice A f.length c] w fun e w' => e = .returned (.int .i64 (gardenN f : Int)) ∧ ∃ m, w' = w.drewN m := by
 have := sGardenOf_c A f.length c (ints f) w h
 rwa [gardenI_ok hf] at this
theorem sCls_c {f : List Nat} (hf : MapN f) (A : Option Addr) (c : Nat) (w : World) (h : Rd w w.heap.size A f.length c (ints f)) :
    Calls Tryz.prog 59 #[.slice A f.length c] w fun e w' => ∃ A' c', e = .returned (.slice A' (clsN f).length c') ∧ Below w.heap.size w w' := by
 have := sClosedSets_c A f.length c (ints f) w h
 rw [closedSetsI_ok hf] at this
 exact this.mono fun e w' ⟨v, he, hO, hb⟩ => by
  obtain ⟨A', c', rfl, _⟩ := hO.form
  rw [ints_len] at he
  exact ⟨A', c', he, hb⟩
theorem sImg_c {f : List Nat} (hf : MapN f) (A : Option Addr) (c : Nat) (w : World) (h : Rd w w.heap.size A f.length c (ints f)) :
    Calls Tryz.prog 57 #[.slice A f.length c] w fun e w' => ∃ A' c', e = .returned (.slice A' (imgN f).length c') ∧ Below w.heap.size w w' :=
 (sImageOf_c hf A c w h).mono fun e w' ⟨v, he, hO, hb⟩ => by
  obtain ⟨A', c', rfl, _⟩ := hO.form
  rw [ints_len] at he
  exact ⟨A', c', he, hb⟩
set_option maxRecDepth 100000 in
set_option maxHeartbeats 3200000 in
theorem sq0_c {f : List Nat} (hf : MapN f) (A P : Option Addr) (c m d : Nat) (yss : List (List Int)) (w : World) (h : RdD w w.heap.size A f.length c (ints f) P m d yss) (hok : deskOkB (ints f) yss = true) :
    Calls Tryz.prog 10 #[.agg #[.slice A f.length c, .slice P m d], .string ⟨#[109, 97, 112]⟩] w (LineO w (ints f) yss (bl (ask f 0))) := by
 have hrd : rdV [109, 97, 112] = ((0, 0, 0, []), false) := by decide
 have KRD : ∀ W, Calls Tryz.prog 48 #[.string ⟨#[109, 97, 112]⟩] W (RdOut (rdV [109, 97, 112]) W) := fun W => sReadDeed_c [109, 97, 112] W (by decide)
 rw [hrd] at KRD
 unfold RdOut at KRD
 simp only at KRD
 clear hrd
 have h7 := hf.le7
 have h1p := hf.pos
 have hfit := (desk_fit hok).2.2
 have hW : Below w.heap.size w ((w.alloc (.cells #[.slice A f.length c, .slice P m d] 26)).alloc (.cells #[.slice none 0 0, .slice none 0 0] 26)) := ((Below.refl _ _).alloc (Nat.le_refl _) _).alloc (by simp) _
 have h1 := h.up hW
 have hr1 := Two.made (w.alloc (.cells #[.slice A f.length c, .slice P m d] 26)) 26 (.slice none 0 0) (.slice none 0 0)
 have ha := (Two.made w 26 (.slice A f.length c) (.slice P m d)).alloc (.cells #[.slice none 0 0, .slice none 0 0] 26)
 simp only [World.size_alloc] at hr1
 have K1 := sDeskOk_c A P f.length c m d (ints f) yss _ h1
 rw [hok] at K1
 go_enter Tryz.func10, Tryz.ntmps10
 go_wp2_with fail
 generalize ((w.alloc (.cells #[.slice A f.length c, .slice P m d] 26)).alloc (.cells #[.slice none 0 0, .slice none 0 0] 26)) = w1 at *
 refine K1.mono ?_
 rintro e w2 ⟨rfl, hb2⟩
 have h2 := h1.up hb2
 have hr2 := hr1.up hb2
 have ha2 := ha.up hb2
 have hB2 := bt hW hb2
 have hlo9 : w.heap.size + 2 ≤ w2.heap.size := hr2.1
 obtain ⟨_, a0, a1, _, _⟩ := id ha2
 clear K1 h1 hr1 ha hW hb2
 go_wp2_with fail
 clear a0 a1
 refine (sCopy_c A P f.length c m d (ints f) yss _ h2 (by omega) (by omega) hfit).mono ?_
 rintro e w3 ⟨A3, n3, c3, P3, m3, d3, rfl, hO3, hb3⟩
 have hbA := below_new w3 (.cells #[.slice A3 n3 c3, .slice P3 m3 d3] 26)
 have h4 := (h2.up hb3).up hbA
 have hr4 := (hr2.up hb3).up hbA
 have ha4 := (ha2.up hb3).up hbA
 have hS4 := Two.made w3 26 (.slice A3 n3 c3) (.slice P3 m3 d3)
 have hO4 := hO3.up hbA
 have hB4 := bt (bt hB2 hb3) hbA
 have hz3 := hb3.size
 clear h2 hr2 ha2 hB2 hb3 hbA hO3
 go_wp2_with fail
 generalize w3.alloc (.cells #[.slice A3 n3 c3, .slice P3 m3 d3] 26) = w4 at *
 refine (KRD w4).mono ?_
 rintro e w5 ⟨rfl, hb5⟩
 have hbA := below_new w5 (.cells #[.int .i64 0, .int .i64 0, .int .i64 0, .string (bl [])] 55)
 have D9 := (h4.up hb5).up hbA
 have R9 := (hr4.up hb5).up hbA
 have T5 := (ha4.up hb5).up hbA
 have S9 := (hS4.up hb5).up hbA
 have O9 := (hO4.up hb5).up hbA
 have B9 := bt (bt hB4 hb5) hbA
 clear h4 hr4 ha4 hS4 hO4 hB4 hb5 hbA
 obtain ⟨a9z, a90, a91, _, _⟩ := id T5
 obtain ⟨s9z, s90, s91, _, _⟩ := id S9
 clear KRD
 go_upto_region 12 with fail
 generalize w5.alloc (.cells #[.int .i64 0, .int .i64 0, .int .i64 0, .string (bl [])] 55) = w9 at *
 have KC : Hid (∀ W, Below w9.heap.size w9 W → World.cell? W ⟨w.heap.size, 0, none⟩ = some (.slice A f.length c) ∧ World.cell? W ⟨w.heap.size, 1, none⟩ = some (.slice P m d) ∧ World.cell? W ⟨w3.heap.size, 0, none⟩ = some (.slice A3 n3 c3) ∧ World.cell? W ⟨w3.heap.size, 1, none⟩ = some (.slice P3 m3 d3)) := Lib.hid (fun W h => ⟨(h.cell (p := ⟨w.heap.size, 0, none⟩) a9z).trans a90, (h.cell (p := ⟨w.heap.size, 1, none⟩) a9z).trans a91, (h.cell (p := ⟨w3.heap.size, 0, none⟩) s9z).trans s90, (h.cell (p := ⟨w3.heap.size, 1, none⟩) s9z).trans s91⟩)
 have C0 : Hid (Below w9.heap.size w9 w9.drew) := Lib.hid (bd (Below.refl _ _) 1)
 refine wp_region_held_drew (S := fun W => World.cell? W ⟨w.heap.size, 0, none⟩ = some (.slice A f.length c) ∧ World.cell? W ⟨w.heap.size, 1, none⟩ = some (.slice P m d) ∧ World.cell? W ⟨w3.heap.size, 0, none⟩ = some (.slice A3 n3 c3) ∧ World.cell? W ⟨w3.heap.size, 1, none⟩ = some (.slice P3 m3 d3)) (by kernel_rfl) (KC.out _ C0.out) (fun hHeld => ?_)
 refine wpAnyH_take (i := 0) (v := ?v1_0) rfl (by kernel_rfl) (by kernel_rfl) (by kernel_rfl) (fun _ _ _ h => h) (Or.inl ⟨by rfl, ?hy1_0⟩) hHeld ?_
 case hy1_0 => (intro w hSw; (try dsimp only at hSw); go_simp; first | done | with_reducible rfl)
 simp only [Act.put, List.setIfInBounds_toArray, List.set_cons_zero, List.set_cons_succ, List.getElem_toArray, List.getElem_cons_zero]
 refine wpAnyH_take (i := 1) (v := ?v1_1) rfl (by kernel_rfl) (by kernel_rfl) (by kernel_rfl) (fun _ _ _ h => h) (Or.inl ⟨by rfl, ?hy1_1⟩) hHeld ?_
 case hy1_1 => (intro w hSw; (try dsimp only at hSw); go_simp; first | done | with_reducible rfl)
 simp only [Act.put, List.setIfInBounds_toArray, List.set_cons_zero, List.set_cons_succ, List.getElem_toArray, List.getElem_cons_zero, List.getElem_cons_succ]
 refine wpAnyH_take (i := 2) (v := ?v1_2) rfl (by kernel_rfl) (by kernel_rfl) (by kernel_rfl) (fun _ _ _ h => h) (Or.inl ⟨by rfl, ?hy1_2⟩) hHeld ?_
 case hy1_2 => (intro w hSw; (try dsimp only at hSw); go_simp; first | done | with_reducible rfl)
 simp only [Act.put, List.setIfInBounds_toArray, List.set_cons_zero, List.set_cons_succ, List.getElem_toArray, List.getElem_cons_zero, List.getElem_cons_succ]
 refine wpAnyH_ready (rs := [3]) (by kernel_rfl) (by simp) ?_
 refine AllReadyH.cons rfl (fun K hK => ?_) AllReadyH.nil
 (try simp only [List.getElem_toArray, List.getElem_cons_zero, List.getElem_cons_succ])
 go_simp
 refine (sMapT_c hf A c _ (D9.1.up C0.out)).mono ?_
 rintro e x1 ⟨rfl, hx1⟩
 have C1 := Lib.hid (show Below w9.heap.size w9 x1 from bt C0.out hx1)
 clear hx1
 have R2 := R9.up C1.out
 have hz2 := C1.out.size
 have hr9z := R9.1
 obtain ⟨_, s0, s1, s2, s3⟩ := id R2
 obtain ⟨HE, HT⟩ := line_end (w := w) (bl (digT f)) R2 (O9.up C1.out) hlo9 (by omega) (bt B9 C1.out)
 have HE := Lib.hid HE
 have HT := Lib.hid HT
 have KF : Hid (World.cell? ((x1.setCell ⟨w.heap.size + 1, 0, none⟩ (.slice A3 n3 c3)).setCell ⟨w.heap.size + 1, 1, none⟩ (.slice P3 m3 d3)) ⟨w.heap.size, 0, none⟩ = some (.slice A f.length c) ∧ World.cell? ((x1.setCell ⟨w.heap.size + 1, 0, none⟩ (.slice A3 n3 c3)).setCell ⟨w.heap.size + 1, 1, none⟩ (.slice P3 m3 d3)) ⟨w.heap.size, 1, none⟩ = some (.slice P m d) ∧ World.cell? ((x1.setCell ⟨w.heap.size + 1, 0, none⟩ (.slice A3 n3 c3)).setCell ⟨w.heap.size + 1, 1, none⟩ (.slice P3 m3 d3)) ⟨w3.heap.size, 0, none⟩ = some (.slice A3 n3 c3) ∧ World.cell? ((x1.setCell ⟨w.heap.size + 1, 0, none⟩ (.slice A3 n3 c3)).setCell ⟨w.heap.size + 1, 1, none⟩ (.slice P3 m3 d3)) ⟨w3.heap.size, 1, none⟩ = some (.slice P3 m3 d3)) := Lib.hid ⟨farc (by omega) (KC.out _ C1.out).1, farc (by omega) (KC.out _ C1.out).2.1, farc (by omega) (KC.out _ C1.out).2.2.1, farc (by omega) (KC.out _ C1.out).2.2.2⟩
 clear R2
 go_wp2_with fail
 refine hK.out _ _ (KC.out _ C1.out) (fun hHeld => ?_)
 clear hK K
 (try simp only [Act.put, List.setIfInBounds_toArray, List.set_cons_zero, List.set_cons_succ])
 refine wpAnyH_ready (rs := [4]) (by kernel_rfl) (by simp) ?_
 refine AllReadyH.cons rfl (fun K hK => ?_) AllReadyH.nil
 (try simp only [List.getElem_toArray, List.getElem_cons_zero, List.getElem_cons_succ])
 go_simp
 refine hK.out _ _ (KF.out) (fun hHeld => ?_)
 clear hK K
 (try simp only [Act.put, List.setIfInBounds_toArray, List.set_cons_zero, List.set_cons_succ])
 refine wpAnyH_take (i := 5) (v := ?v1_5) rfl (by kernel_rfl) (by kernel_rfl) (by kernel_rfl) (fun _ _ _ h => h) (Or.inl ⟨by rfl, ?hy1_5⟩) hHeld ?_
 case hy1_5 => (intro w hSw; (try dsimp only at hSw); go_simp; first | done | with_reducible rfl)
 simp only [Act.put, List.setIfInBounds_toArray, List.set_cons_zero, List.set_cons_succ, List.getElem_toArray, List.getElem_cons_zero, List.getElem_cons_succ]
 refine wpAnyH_done (by kernel_rfl) ?_ _
 go_wp2_with fail
 (try simp only [Exit.inBlock, Exit.then])
 refine bodyPost_ret (v := .tuple #[.agg #[.slice A3 n3 c3, .slice P3 m3 d3], .string (bl (digT f))]) ?_ rfl HE.out
 exact Eq.trans (results_two_tmp (p := 4) (u := 5) rfl _ _ (w.heap.size + 1) _ _ _ rfl HT.out Tryz.underlying26 rfl desk_size) rfl
set_option maxRecDepth 100000 in
set_option maxHeartbeats 3200000 in
theorem sq1_c {f : List Nat} (hf : MapN f) (A P : Option Addr) (c m d : Nat) (yss : List (List Int)) (w : World) (h : RdD w w.heap.size A f.length c (ints f) P m d yss) (hok : deskOkB (ints f) yss = true) :
    Calls Tryz.prog 10 #[.agg #[.slice A f.length c, .slice P m d], .string ⟨#[105, 110, 100, 101, 120]⟩] w (LineO w (ints f) yss (bl (ask f 1))) := by
 have hrd : rdV [105, 110, 100, 101, 120] = ((0, 0, 0, []), false) := by decide
 have KRD : ∀ W, Calls Tryz.prog 48 #[.string ⟨#[105, 110, 100, 101, 120]⟩] W (RdOut (rdV [105, 110, 100, 101, 120]) W) := fun W => sReadDeed_c [105, 110, 100, 101, 120] W (by decide)
 rw [hrd] at KRD
 unfold RdOut at KRD
 simp only at KRD
 clear hrd
 have h7 := hf.le7
 have h1p := hf.pos
 have hfit := (desk_fit hok).2.2
 have hW : Below w.heap.size w ((w.alloc (.cells #[.slice A f.length c, .slice P m d] 26)).alloc (.cells #[.slice none 0 0, .slice none 0 0] 26)) := ((Below.refl _ _).alloc (Nat.le_refl _) _).alloc (by simp) _
 have h1 := h.up hW
 have hr1 := Two.made (w.alloc (.cells #[.slice A f.length c, .slice P m d] 26)) 26 (.slice none 0 0) (.slice none 0 0)
 have ha := (Two.made w 26 (.slice A f.length c) (.slice P m d)).alloc (.cells #[.slice none 0 0, .slice none 0 0] 26)
 simp only [World.size_alloc] at hr1
 have K1 := sDeskOk_c A P f.length c m d (ints f) yss _ h1
 rw [hok] at K1
 go_enter Tryz.func10, Tryz.ntmps10
 go_wp2_with fail
 generalize ((w.alloc (.cells #[.slice A f.length c, .slice P m d] 26)).alloc (.cells #[.slice none 0 0, .slice none 0 0] 26)) = w1 at *
 refine K1.mono ?_
 rintro e w2 ⟨rfl, hb2⟩
 have h2 := h1.up hb2
 have hr2 := hr1.up hb2
 have ha2 := ha.up hb2
 have hB2 := bt hW hb2
 have hlo9 : w.heap.size + 2 ≤ w2.heap.size := hr2.1
 obtain ⟨_, a0, a1, _, _⟩ := id ha2
 clear K1 h1 hr1 ha hW hb2
 go_wp2_with fail
 clear a0 a1
 refine (sCopy_c A P f.length c m d (ints f) yss _ h2 (by omega) (by omega) hfit).mono ?_
 rintro e w3 ⟨A3, n3, c3, P3, m3, d3, rfl, hO3, hb3⟩
 have hbA := below_new w3 (.cells #[.slice A3 n3 c3, .slice P3 m3 d3] 26)
 have h4 := (h2.up hb3).up hbA
 have hr4 := (hr2.up hb3).up hbA
 have ha4 := (ha2.up hb3).up hbA
 have hS4 := Two.made w3 26 (.slice A3 n3 c3) (.slice P3 m3 d3)
 have hO4 := hO3.up hbA
 have hB4 := bt (bt hB2 hb3) hbA
 have hz3 := hb3.size
 clear h2 hr2 ha2 hB2 hb3 hbA hO3
 go_wp2_with fail
 generalize w3.alloc (.cells #[.slice A3 n3 c3, .slice P3 m3 d3] 26) = w4 at *
 refine (KRD w4).mono ?_
 rintro e w5 ⟨rfl, hb5⟩
 have hbA := below_new w5 (.cells #[.int .i64 0, .int .i64 0, .int .i64 0, .string (bl [])] 55)
 have D9 := (h4.up hb5).up hbA
 have R9 := (hr4.up hb5).up hbA
 have T5 := (ha4.up hb5).up hbA
 have S9 := (hS4.up hb5).up hbA
 have O9 := (hO4.up hb5).up hbA
 have B9 := bt (bt hB4 hb5) hbA
 clear h4 hr4 ha4 hS4 hO4 hB4 hb5 hbA
 obtain ⟨a9z, a90, a91, _, _⟩ := id T5
 obtain ⟨s9z, s90, s91, _, _⟩ := id S9
 have hn : idxN f ≤ 1000000 := by have := idxN_le hf; omega
 clear KRD
 go_upto_region 14 with fail
 generalize w5.alloc (.cells #[.int .i64 0, .int .i64 0, .int .i64 0, .string (bl [])] 55) = w9 at *
 have KC : Hid (∀ W, Below w9.heap.size w9 W → World.cell? W ⟨w.heap.size, 0, none⟩ = some (.slice A f.length c) ∧ World.cell? W ⟨w.heap.size, 1, none⟩ = some (.slice P m d) ∧ World.cell? W ⟨w3.heap.size, 0, none⟩ = some (.slice A3 n3 c3) ∧ World.cell? W ⟨w3.heap.size, 1, none⟩ = some (.slice P3 m3 d3)) := Lib.hid (fun W h => ⟨(h.cell (p := ⟨w.heap.size, 0, none⟩) a9z).trans a90, (h.cell (p := ⟨w.heap.size, 1, none⟩) a9z).trans a91, (h.cell (p := ⟨w3.heap.size, 0, none⟩) s9z).trans s90, (h.cell (p := ⟨w3.heap.size, 1, none⟩) s9z).trans s91⟩)
 have C0 : Hid (Below w9.heap.size w9 w9.drew) := Lib.hid (bd (Below.refl _ _) 1)
 refine wp_region_held_drew (S := fun W => World.cell? W ⟨w.heap.size, 0, none⟩ = some (.slice A f.length c) ∧ World.cell? W ⟨w.heap.size, 1, none⟩ = some (.slice P m d) ∧ World.cell? W ⟨w3.heap.size, 0, none⟩ = some (.slice A3 n3 c3) ∧ World.cell? W ⟨w3.heap.size, 1, none⟩ = some (.slice P3 m3 d3)) (by kernel_rfl) (KC.out _ C0.out) (fun hHeld => ?_)
 refine wpAnyH_take (i := 0) (v := ?v2_0) rfl (by kernel_rfl) (by kernel_rfl) (by kernel_rfl) (fun _ _ _ h => h) (Or.inl ⟨by rfl, ?hy2_0⟩) hHeld ?_
 case hy2_0 => (intro w hSw; (try dsimp only at hSw); go_simp; first | done | with_reducible rfl)
 simp only [Act.put, List.setIfInBounds_toArray, List.set_cons_zero, List.set_cons_succ, List.getElem_toArray, List.getElem_cons_zero]
 refine wpAnyH_take (i := 1) (v := ?v2_1) rfl (by kernel_rfl) (by kernel_rfl) (by kernel_rfl) (fun _ _ _ h => h) (Or.inl ⟨by rfl, ?hy2_1⟩) hHeld ?_
 case hy2_1 => (intro w hSw; (try dsimp only at hSw); go_simp; first | done | with_reducible rfl)
 simp only [Act.put, List.setIfInBounds_toArray, List.set_cons_zero, List.set_cons_succ, List.getElem_toArray, List.getElem_cons_zero, List.getElem_cons_succ]
 refine wpAnyH_take (i := 2) (v := ?v2_2) rfl (by kernel_rfl) (by kernel_rfl) (by kernel_rfl) (fun _ _ _ h => h) (Or.inl ⟨by rfl, ?hy2_2⟩) hHeld ?_
 case hy2_2 => (intro w hSw; (try dsimp only at hSw); go_simp; first | done | with_reducible rfl)
 simp only [Act.put, List.setIfInBounds_toArray, List.set_cons_zero, List.set_cons_succ, List.getElem_toArray, List.getElem_cons_zero, List.getElem_cons_succ]
 refine wpAnyH_ready (rs := [3]) (by kernel_rfl) (by simp) ?_
 refine AllReadyH.cons rfl (fun K hK => ?_) AllReadyH.nil
 (try simp only [List.getElem_toArray, List.getElem_cons_zero, List.getElem_cons_succ])
 go_simp
 refine (sIndexOf_c hf A c _ (D9.1.up C0.out)).mono ?_
 rintro e x1 ⟨rfl, hx1⟩
 have C1 := Lib.hid (show Below w9.heap.size w9 x1 from bt C0.out hx1)
 clear hx1
 go_wp2_with fail
 refine hK.out _ _ (KC.out _ C1.out) (fun hHeld => ?_)
 clear hK K
 (try simp only [Act.put, List.setIfInBounds_toArray, List.set_cons_zero, List.set_cons_succ])
 refine wpAnyH_ready (rs := [4]) (by kernel_rfl) (by simp) ?_
 refine AllReadyH.cons rfl (fun K hK => ?_) AllReadyH.nil
 (try simp only [List.getElem_toArray, List.getElem_cons_zero, List.getElem_cons_succ])
 go_simp
 refine (sNum_c (idxN f) _ hn).mono ?_
 rintro e x2 ⟨rfl, hx2⟩
 have C2 := Lib.hid (show Below w9.heap.size w9 x2 from bt C1.out hx2)
 clear hx2
 have R2 := R9.up C2.out
 have hz2 := C2.out.size
 have hr9z := R9.1
 obtain ⟨_, s0, s1, s2, s3⟩ := id R2
 obtain ⟨HE, HT⟩ := line_end (w := w) (decX (idxN f)) R2 (O9.up C2.out) hlo9 (by omega) (bt B9 C2.out)
 have HE := Lib.hid HE
 have HT := Lib.hid HT
 have KF : Hid (World.cell? ((x2.setCell ⟨w.heap.size + 1, 0, none⟩ (.slice A3 n3 c3)).setCell ⟨w.heap.size + 1, 1, none⟩ (.slice P3 m3 d3)) ⟨w.heap.size, 0, none⟩ = some (.slice A f.length c) ∧ World.cell? ((x2.setCell ⟨w.heap.size + 1, 0, none⟩ (.slice A3 n3 c3)).setCell ⟨w.heap.size + 1, 1, none⟩ (.slice P3 m3 d3)) ⟨w.heap.size, 1, none⟩ = some (.slice P m d) ∧ World.cell? ((x2.setCell ⟨w.heap.size + 1, 0, none⟩ (.slice A3 n3 c3)).setCell ⟨w.heap.size + 1, 1, none⟩ (.slice P3 m3 d3)) ⟨w3.heap.size, 0, none⟩ = some (.slice A3 n3 c3) ∧ World.cell? ((x2.setCell ⟨w.heap.size + 1, 0, none⟩ (.slice A3 n3 c3)).setCell ⟨w.heap.size + 1, 1, none⟩ (.slice P3 m3 d3)) ⟨w3.heap.size, 1, none⟩ = some (.slice P3 m3 d3)) := Lib.hid ⟨farc (by omega) (KC.out _ C2.out).1, farc (by omega) (KC.out _ C2.out).2.1, farc (by omega) (KC.out _ C2.out).2.2.1, farc (by omega) (KC.out _ C2.out).2.2.2⟩
 clear R2
 go_wp2_with fail
 refine hK.out _ _ (KC.out _ C2.out) (fun hHeld => ?_)
 clear hK K
 (try simp only [Act.put, List.setIfInBounds_toArray, List.set_cons_zero, List.set_cons_succ])
 refine wpAnyH_ready (rs := [5]) (by kernel_rfl) (by simp) ?_
 refine AllReadyH.cons rfl (fun K hK => ?_) AllReadyH.nil
 (try simp only [List.getElem_toArray, List.getElem_cons_zero, List.getElem_cons_succ])
 go_simp
 refine hK.out _ _ (KF.out) (fun hHeld => ?_)
 clear hK K
 (try simp only [Act.put, List.setIfInBounds_toArray, List.set_cons_zero, List.set_cons_succ])
 refine wpAnyH_take (i := 6) (v := ?v2_6) rfl (by kernel_rfl) (by kernel_rfl) (by kernel_rfl) (fun _ _ _ h => h) (Or.inl ⟨by rfl, ?hy2_6⟩) hHeld ?_
 case hy2_6 => (intro w hSw; (try dsimp only at hSw); go_simp; first | done | with_reducible rfl)
 simp only [Act.put, List.setIfInBounds_toArray, List.set_cons_zero, List.set_cons_succ, List.getElem_toArray, List.getElem_cons_zero, List.getElem_cons_succ]
 refine wpAnyH_done (by kernel_rfl) ?_ _
 go_wp2_with fail
 (try simp only [Exit.inBlock, Exit.then])
 refine bodyPost_ret (v := .tuple #[.agg #[.slice A3 n3 c3, .slice P3 m3 d3], .string (decX (idxN f))]) ?_ rfl HE.out
 exact Eq.trans (results_two_tmp (p := 4) (u := 5) rfl _ _ (w.heap.size + 1) _ _ _ rfl HT.out Tryz.underlying26 rfl desk_size) rfl
set_option maxRecDepth 100000 in
set_option maxHeartbeats 3200000 in
theorem sq2_c {f : List Nat} (hf : MapN f) (A P : Option Addr) (c m d : Nat) (yss : List (List Int)) (w : World) (h : RdD w w.heap.size A f.length c (ints f) P m d yss) (hok : deskOkB (ints f) yss = true) :
    Calls Tryz.prog 10 #[.agg #[.slice A f.length c, .slice P m d], .string ⟨#[112, 101, 114, 105, 111, 100]⟩] w (LineO w (ints f) yss (bl (ask f 2))) := by
 have hrd : rdV [112, 101, 114, 105, 111, 100] = ((0, 0, 0, []), false) := by decide
 have KRD : ∀ W, Calls Tryz.prog 48 #[.string ⟨#[112, 101, 114, 105, 111, 100]⟩] W (RdOut (rdV [112, 101, 114, 105, 111, 100]) W) := fun W => sReadDeed_c [112, 101, 114, 105, 111, 100] W (by decide)
 rw [hrd] at KRD
 unfold RdOut at KRD
 simp only at KRD
 clear hrd
 have h7 := hf.le7
 have h1p := hf.pos
 have hfit := (desk_fit hok).2.2
 have hW : Below w.heap.size w ((w.alloc (.cells #[.slice A f.length c, .slice P m d] 26)).alloc (.cells #[.slice none 0 0, .slice none 0 0] 26)) := ((Below.refl _ _).alloc (Nat.le_refl _) _).alloc (by simp) _
 have h1 := h.up hW
 have hr1 := Two.made (w.alloc (.cells #[.slice A f.length c, .slice P m d] 26)) 26 (.slice none 0 0) (.slice none 0 0)
 have ha := (Two.made w 26 (.slice A f.length c) (.slice P m d)).alloc (.cells #[.slice none 0 0, .slice none 0 0] 26)
 simp only [World.size_alloc] at hr1
 have K1 := sDeskOk_c A P f.length c m d (ints f) yss _ h1
 rw [hok] at K1
 go_enter Tryz.func10, Tryz.ntmps10
 go_wp2_with fail
 generalize ((w.alloc (.cells #[.slice A f.length c, .slice P m d] 26)).alloc (.cells #[.slice none 0 0, .slice none 0 0] 26)) = w1 at *
 refine K1.mono ?_
 rintro e w2 ⟨rfl, hb2⟩
 have h2 := h1.up hb2
 have hr2 := hr1.up hb2
 have ha2 := ha.up hb2
 have hB2 := bt hW hb2
 have hlo9 : w.heap.size + 2 ≤ w2.heap.size := hr2.1
 obtain ⟨_, a0, a1, _, _⟩ := id ha2
 clear K1 h1 hr1 ha hW hb2
 go_wp2_with fail
 clear a0 a1
 refine (sCopy_c A P f.length c m d (ints f) yss _ h2 (by omega) (by omega) hfit).mono ?_
 rintro e w3 ⟨A3, n3, c3, P3, m3, d3, rfl, hO3, hb3⟩
 have hbA := below_new w3 (.cells #[.slice A3 n3 c3, .slice P3 m3 d3] 26)
 have h4 := (h2.up hb3).up hbA
 have hr4 := (hr2.up hb3).up hbA
 have ha4 := (ha2.up hb3).up hbA
 have hS4 := Two.made w3 26 (.slice A3 n3 c3) (.slice P3 m3 d3)
 have hO4 := hO3.up hbA
 have hB4 := bt (bt hB2 hb3) hbA
 have hz3 := hb3.size
 clear h2 hr2 ha2 hB2 hb3 hbA hO3
 go_wp2_with fail
 generalize w3.alloc (.cells #[.slice A3 n3 c3, .slice P3 m3 d3] 26) = w4 at *
 refine (KRD w4).mono ?_
 rintro e w5 ⟨rfl, hb5⟩
 have hbA := below_new w5 (.cells #[.int .i64 0, .int .i64 0, .int .i64 0, .string (bl [])] 55)
 have D9 := (h4.up hb5).up hbA
 have R9 := (hr4.up hb5).up hbA
 have T5 := (ha4.up hb5).up hbA
 have S9 := (hS4.up hb5).up hbA
 have O9 := (hO4.up hb5).up hbA
 have B9 := bt (bt hB4 hb5) hbA
 clear h4 hr4 ha4 hS4 hO4 hB4 hb5 hbA
 obtain ⟨a9z, a90, a91, _, _⟩ := id T5
 obtain ⟨s9z, s90, s91, _, _⟩ := id S9
 have hn : perN f ≤ 1000000 := by have := (perN_le hf).2; omega
 clear KRD
 go_upto_region 16 with fail
 generalize w5.alloc (.cells #[.int .i64 0, .int .i64 0, .int .i64 0, .string (bl [])] 55) = w9 at *
 have KC : Hid (∀ W, Below w9.heap.size w9 W → World.cell? W ⟨w.heap.size, 0, none⟩ = some (.slice A f.length c) ∧ World.cell? W ⟨w.heap.size, 1, none⟩ = some (.slice P m d) ∧ World.cell? W ⟨w3.heap.size, 0, none⟩ = some (.slice A3 n3 c3) ∧ World.cell? W ⟨w3.heap.size, 1, none⟩ = some (.slice P3 m3 d3)) := Lib.hid (fun W h => ⟨(h.cell (p := ⟨w.heap.size, 0, none⟩) a9z).trans a90, (h.cell (p := ⟨w.heap.size, 1, none⟩) a9z).trans a91, (h.cell (p := ⟨w3.heap.size, 0, none⟩) s9z).trans s90, (h.cell (p := ⟨w3.heap.size, 1, none⟩) s9z).trans s91⟩)
 have C0 : Hid (Below w9.heap.size w9 w9.drew) := Lib.hid (bd (Below.refl _ _) 1)
 refine wp_region_held_drew (S := fun W => World.cell? W ⟨w.heap.size, 0, none⟩ = some (.slice A f.length c) ∧ World.cell? W ⟨w.heap.size, 1, none⟩ = some (.slice P m d) ∧ World.cell? W ⟨w3.heap.size, 0, none⟩ = some (.slice A3 n3 c3) ∧ World.cell? W ⟨w3.heap.size, 1, none⟩ = some (.slice P3 m3 d3)) (by kernel_rfl) (KC.out _ C0.out) (fun hHeld => ?_)
 refine wpAnyH_take (i := 0) (v := ?v3_0) rfl (by kernel_rfl) (by kernel_rfl) (by kernel_rfl) (fun _ _ _ h => h) (Or.inl ⟨by rfl, ?hy3_0⟩) hHeld ?_
 case hy3_0 => (intro w hSw; (try dsimp only at hSw); go_simp; first | done | with_reducible rfl)
 simp only [Act.put, List.setIfInBounds_toArray, List.set_cons_zero, List.set_cons_succ, List.getElem_toArray, List.getElem_cons_zero]
 refine wpAnyH_take (i := 1) (v := ?v3_1) rfl (by kernel_rfl) (by kernel_rfl) (by kernel_rfl) (fun _ _ _ h => h) (Or.inl ⟨by rfl, ?hy3_1⟩) hHeld ?_
 case hy3_1 => (intro w hSw; (try dsimp only at hSw); go_simp; first | done | with_reducible rfl)
 simp only [Act.put, List.setIfInBounds_toArray, List.set_cons_zero, List.set_cons_succ, List.getElem_toArray, List.getElem_cons_zero, List.getElem_cons_succ]
 refine wpAnyH_take (i := 2) (v := ?v3_2) rfl (by kernel_rfl) (by kernel_rfl) (by kernel_rfl) (fun _ _ _ h => h) (Or.inl ⟨by rfl, ?hy3_2⟩) hHeld ?_
 case hy3_2 => (intro w hSw; (try dsimp only at hSw); go_simp; first | done | with_reducible rfl)
 simp only [Act.put, List.setIfInBounds_toArray, List.set_cons_zero, List.set_cons_succ, List.getElem_toArray, List.getElem_cons_zero, List.getElem_cons_succ]
 refine wpAnyH_ready (rs := [3]) (by kernel_rfl) (by simp) ?_
 refine AllReadyH.cons rfl (fun K hK => ?_) AllReadyH.nil
 (try simp only [List.getElem_toArray, List.getElem_cons_zero, List.getElem_cons_succ])
 go_simp
 refine (sPeriodOf_c hf A c _ (D9.1.up C0.out)).mono ?_
 rintro e x1 ⟨rfl, hx1⟩
 have C1 := Lib.hid (show Below w9.heap.size w9 x1 from bt C0.out hx1)
 clear hx1
 go_wp2_with fail
 refine hK.out _ _ (KC.out _ C1.out) (fun hHeld => ?_)
 clear hK K
 (try simp only [Act.put, List.setIfInBounds_toArray, List.set_cons_zero, List.set_cons_succ])
 refine wpAnyH_ready (rs := [4]) (by kernel_rfl) (by simp) ?_
 refine AllReadyH.cons rfl (fun K hK => ?_) AllReadyH.nil
 (try simp only [List.getElem_toArray, List.getElem_cons_zero, List.getElem_cons_succ])
 go_simp
 refine (sNum_c (perN f) _ hn).mono ?_
 rintro e x2 ⟨rfl, hx2⟩
 have C2 := Lib.hid (show Below w9.heap.size w9 x2 from bt C1.out hx2)
 clear hx2
 have R2 := R9.up C2.out
 have hz2 := C2.out.size
 have hr9z := R9.1
 obtain ⟨_, s0, s1, s2, s3⟩ := id R2
 obtain ⟨HE, HT⟩ := line_end (w := w) (decX (perN f)) R2 (O9.up C2.out) hlo9 (by omega) (bt B9 C2.out)
 have HE := Lib.hid HE
 have HT := Lib.hid HT
 have KF : Hid (World.cell? ((x2.setCell ⟨w.heap.size + 1, 0, none⟩ (.slice A3 n3 c3)).setCell ⟨w.heap.size + 1, 1, none⟩ (.slice P3 m3 d3)) ⟨w.heap.size, 0, none⟩ = some (.slice A f.length c) ∧ World.cell? ((x2.setCell ⟨w.heap.size + 1, 0, none⟩ (.slice A3 n3 c3)).setCell ⟨w.heap.size + 1, 1, none⟩ (.slice P3 m3 d3)) ⟨w.heap.size, 1, none⟩ = some (.slice P m d) ∧ World.cell? ((x2.setCell ⟨w.heap.size + 1, 0, none⟩ (.slice A3 n3 c3)).setCell ⟨w.heap.size + 1, 1, none⟩ (.slice P3 m3 d3)) ⟨w3.heap.size, 0, none⟩ = some (.slice A3 n3 c3) ∧ World.cell? ((x2.setCell ⟨w.heap.size + 1, 0, none⟩ (.slice A3 n3 c3)).setCell ⟨w.heap.size + 1, 1, none⟩ (.slice P3 m3 d3)) ⟨w3.heap.size, 1, none⟩ = some (.slice P3 m3 d3)) := Lib.hid ⟨farc (by omega) (KC.out _ C2.out).1, farc (by omega) (KC.out _ C2.out).2.1, farc (by omega) (KC.out _ C2.out).2.2.1, farc (by omega) (KC.out _ C2.out).2.2.2⟩
 clear R2
 go_wp2_with fail
 refine hK.out _ _ (KC.out _ C2.out) (fun hHeld => ?_)
 clear hK K
 (try simp only [Act.put, List.setIfInBounds_toArray, List.set_cons_zero, List.set_cons_succ])
 refine wpAnyH_ready (rs := [5]) (by kernel_rfl) (by simp) ?_
 refine AllReadyH.cons rfl (fun K hK => ?_) AllReadyH.nil
 (try simp only [List.getElem_toArray, List.getElem_cons_zero, List.getElem_cons_succ])
 go_simp
 refine hK.out _ _ (KF.out) (fun hHeld => ?_)
 clear hK K
 (try simp only [Act.put, List.setIfInBounds_toArray, List.set_cons_zero, List.set_cons_succ])
 refine wpAnyH_take (i := 6) (v := ?v3_6) rfl (by kernel_rfl) (by kernel_rfl) (by kernel_rfl) (fun _ _ _ h => h) (Or.inl ⟨by rfl, ?hy3_6⟩) hHeld ?_
 case hy3_6 => (intro w hSw; (try dsimp only at hSw); go_simp; first | done | with_reducible rfl)
 simp only [Act.put, List.setIfInBounds_toArray, List.set_cons_zero, List.set_cons_succ, List.getElem_toArray, List.getElem_cons_zero, List.getElem_cons_succ]
 refine wpAnyH_done (by kernel_rfl) ?_ _
 go_wp2_with fail
 (try simp only [Exit.inBlock, Exit.then])
 refine bodyPost_ret (v := .tuple #[.agg #[.slice A3 n3 c3, .slice P3 m3 d3], .string (decX (perN f))]) ?_ rfl HE.out
 exact Eq.trans (results_two_tmp (p := 4) (u := 5) rfl _ _ (w.heap.size + 1) _ _ _ rfl HT.out Tryz.underlying26 rfl desk_size) rfl
set_option maxRecDepth 100000 in
set_option maxHeartbeats 3200000 in
theorem sq4_c {f : List Nat} (hf : MapN f) (A P : Option Addr) (c m d : Nat) (yss : List (List Int)) (w : World) (h : RdD w w.heap.size A f.length c (ints f) P m d yss) (hok : deskOkB (ints f) yss = true) :
    Calls Tryz.prog 10 #[.agg #[.slice A f.length c, .slice P m d], .string ⟨#[115, 104, 97, 112, 101]⟩] w (LineO w (ints f) yss (bl (ask f 4))) := by
 have hrd : rdV [115, 104, 97, 112, 101] = ((0, 0, 0, []), false) := by decide
 have KRD : ∀ W, Calls Tryz.prog 48 #[.string ⟨#[115, 104, 97, 112, 101]⟩] W (RdOut (rdV [115, 104, 97, 112, 101]) W) := fun W => sReadDeed_c [115, 104, 97, 112, 101] W (by decide)
 rw [hrd] at KRD
 unfold RdOut at KRD
 simp only at KRD
 clear hrd
 have h7 := hf.le7
 have h1p := hf.pos
 have hfit := (desk_fit hok).2.2
 have hW : Below w.heap.size w ((w.alloc (.cells #[.slice A f.length c, .slice P m d] 26)).alloc (.cells #[.slice none 0 0, .slice none 0 0] 26)) := ((Below.refl _ _).alloc (Nat.le_refl _) _).alloc (by simp) _
 have h1 := h.up hW
 have hr1 := Two.made (w.alloc (.cells #[.slice A f.length c, .slice P m d] 26)) 26 (.slice none 0 0) (.slice none 0 0)
 have ha := (Two.made w 26 (.slice A f.length c) (.slice P m d)).alloc (.cells #[.slice none 0 0, .slice none 0 0] 26)
 simp only [World.size_alloc] at hr1
 have K1 := sDeskOk_c A P f.length c m d (ints f) yss _ h1
 rw [hok] at K1
 go_enter Tryz.func10, Tryz.ntmps10
 go_wp2_with fail
 generalize ((w.alloc (.cells #[.slice A f.length c, .slice P m d] 26)).alloc (.cells #[.slice none 0 0, .slice none 0 0] 26)) = w1 at *
 refine K1.mono ?_
 rintro e w2 ⟨rfl, hb2⟩
 have h2 := h1.up hb2
 have hr2 := hr1.up hb2
 have ha2 := ha.up hb2
 have hB2 := bt hW hb2
 have hlo9 : w.heap.size + 2 ≤ w2.heap.size := hr2.1
 obtain ⟨_, a0, a1, _, _⟩ := id ha2
 clear K1 h1 hr1 ha hW hb2
 go_wp2_with fail
 clear a0 a1
 refine (sCopy_c A P f.length c m d (ints f) yss _ h2 (by omega) (by omega) hfit).mono ?_
 rintro e w3 ⟨A3, n3, c3, P3, m3, d3, rfl, hO3, hb3⟩
 have hbA := below_new w3 (.cells #[.slice A3 n3 c3, .slice P3 m3 d3] 26)
 have h4 := (h2.up hb3).up hbA
 have hr4 := (hr2.up hb3).up hbA
 have ha4 := (ha2.up hb3).up hbA
 have hS4 := Two.made w3 26 (.slice A3 n3 c3) (.slice P3 m3 d3)
 have hO4 := hO3.up hbA
 have hB4 := bt (bt hB2 hb3) hbA
 have hz3 := hb3.size
 clear h2 hr2 ha2 hB2 hb3 hbA hO3
 go_wp2_with fail
 generalize w3.alloc (.cells #[.slice A3 n3 c3, .slice P3 m3 d3] 26) = w4 at *
 refine (KRD w4).mono ?_
 rintro e w5 ⟨rfl, hb5⟩
 have hbA := below_new w5 (.cells #[.int .i64 0, .int .i64 0, .int .i64 0, .string (bl [])] 55)
 have D9 := (h4.up hb5).up hbA
 have R9 := (hr4.up hb5).up hbA
 have T5 := (ha4.up hb5).up hbA
 have S9 := (hS4.up hb5).up hbA
 have O9 := (hO4.up hb5).up hbA
 have B9 := bt (bt hB4 hb5) hbA
 clear h4 hr4 ha4 hS4 hO4 hB4 hb5 hbA
 obtain ⟨a9z, a90, a91, _, _⟩ := id T5
 obtain ⟨s9z, s90, s91, _, _⟩ := id S9
 clear KRD
 go_upto_region 28 with fail
 generalize w5.alloc (.cells #[.int .i64 0, .int .i64 0, .int .i64 0, .string (bl [])] 55) = w9 at *
 have KC : Hid (∀ W, Below w9.heap.size w9 W → World.cell? W ⟨w.heap.size, 0, none⟩ = some (.slice A f.length c) ∧ World.cell? W ⟨w.heap.size, 1, none⟩ = some (.slice P m d) ∧ World.cell? W ⟨w3.heap.size, 0, none⟩ = some (.slice A3 n3 c3) ∧ World.cell? W ⟨w3.heap.size, 1, none⟩ = some (.slice P3 m3 d3)) := Lib.hid (fun W h => ⟨(h.cell (p := ⟨w.heap.size, 0, none⟩) a9z).trans a90, (h.cell (p := ⟨w.heap.size, 1, none⟩) a9z).trans a91, (h.cell (p := ⟨w3.heap.size, 0, none⟩) s9z).trans s90, (h.cell (p := ⟨w3.heap.size, 1, none⟩) s9z).trans s91⟩)
 have C0 : Hid (Below w9.heap.size w9 w9.drew) := Lib.hid (bd (Below.refl _ _) 1)
 refine wp_region_held_drew (S := fun W => World.cell? W ⟨w.heap.size, 0, none⟩ = some (.slice A f.length c) ∧ World.cell? W ⟨w.heap.size, 1, none⟩ = some (.slice P m d) ∧ World.cell? W ⟨w3.heap.size, 0, none⟩ = some (.slice A3 n3 c3) ∧ World.cell? W ⟨w3.heap.size, 1, none⟩ = some (.slice P3 m3 d3)) (by kernel_rfl) (KC.out _ C0.out) (fun hHeld => ?_)
 refine wpAnyH_take (i := 0) (v := ?v4_0) rfl (by kernel_rfl) (by kernel_rfl) (by kernel_rfl) (fun _ _ _ h => h) (Or.inl ⟨by rfl, ?hy4_0⟩) hHeld ?_
 case hy4_0 => (intro w hSw; (try dsimp only at hSw); go_simp; first | done | with_reducible rfl)
 simp only [Act.put, List.setIfInBounds_toArray, List.set_cons_zero, List.set_cons_succ, List.getElem_toArray, List.getElem_cons_zero]
 refine wpAnyH_take (i := 1) (v := ?v4_1) rfl (by kernel_rfl) (by kernel_rfl) (by kernel_rfl) (fun _ _ _ h => h) (Or.inl ⟨by rfl, ?hy4_1⟩) hHeld ?_
 case hy4_1 => (intro w hSw; (try dsimp only at hSw); go_simp; first | done | with_reducible rfl)
 simp only [Act.put, List.setIfInBounds_toArray, List.set_cons_zero, List.set_cons_succ, List.getElem_toArray, List.getElem_cons_zero, List.getElem_cons_succ]
 refine wpAnyH_take (i := 2) (v := ?v4_2) rfl (by kernel_rfl) (by kernel_rfl) (by kernel_rfl) (fun _ _ _ h => h) (Or.inl ⟨by rfl, ?hy4_2⟩) hHeld ?_
 case hy4_2 => (intro w hSw; (try dsimp only at hSw); go_simp; first | done | with_reducible rfl)
 simp only [Act.put, List.setIfInBounds_toArray, List.set_cons_zero, List.set_cons_succ, List.getElem_toArray, List.getElem_cons_zero, List.getElem_cons_succ]
 refine wpAnyH_ready (rs := [3]) (by kernel_rfl) (by simp) ?_
 refine AllReadyH.cons rfl (fun K hK => ?_) AllReadyH.nil
 (try simp only [List.getElem_toArray, List.getElem_cons_zero, List.getElem_cons_succ])
 go_simp
 refine (sShapeText_c hf A c _ (D9.1.up C0.out)).mono ?_
 rintro e x1 ⟨rfl, hx1⟩
 have C1 := Lib.hid (show Below w9.heap.size w9 x1 from bt C0.out hx1)
 clear hx1
 have R2 := R9.up C1.out
 have hz2 := C1.out.size
 have hr9z := R9.1
 obtain ⟨_, s0, s1, s2, s3⟩ := id R2
 obtain ⟨HE, HT⟩ := line_end (w := w) (bl (shapeT f)) R2 (O9.up C1.out) hlo9 (by omega) (bt B9 C1.out)
 have HE := Lib.hid HE
 have HT := Lib.hid HT
 have KF : Hid (World.cell? ((x1.setCell ⟨w.heap.size + 1, 0, none⟩ (.slice A3 n3 c3)).setCell ⟨w.heap.size + 1, 1, none⟩ (.slice P3 m3 d3)) ⟨w.heap.size, 0, none⟩ = some (.slice A f.length c) ∧ World.cell? ((x1.setCell ⟨w.heap.size + 1, 0, none⟩ (.slice A3 n3 c3)).setCell ⟨w.heap.size + 1, 1, none⟩ (.slice P3 m3 d3)) ⟨w.heap.size, 1, none⟩ = some (.slice P m d) ∧ World.cell? ((x1.setCell ⟨w.heap.size + 1, 0, none⟩ (.slice A3 n3 c3)).setCell ⟨w.heap.size + 1, 1, none⟩ (.slice P3 m3 d3)) ⟨w3.heap.size, 0, none⟩ = some (.slice A3 n3 c3) ∧ World.cell? ((x1.setCell ⟨w.heap.size + 1, 0, none⟩ (.slice A3 n3 c3)).setCell ⟨w.heap.size + 1, 1, none⟩ (.slice P3 m3 d3)) ⟨w3.heap.size, 1, none⟩ = some (.slice P3 m3 d3)) := Lib.hid ⟨farc (by omega) (KC.out _ C1.out).1, farc (by omega) (KC.out _ C1.out).2.1, farc (by omega) (KC.out _ C1.out).2.2.1, farc (by omega) (KC.out _ C1.out).2.2.2⟩
 clear R2
 go_wp2_with fail
 refine hK.out _ _ (KC.out _ C1.out) (fun hHeld => ?_)
 clear hK K
 (try simp only [Act.put, List.setIfInBounds_toArray, List.set_cons_zero, List.set_cons_succ])
 refine wpAnyH_ready (rs := [4]) (by kernel_rfl) (by simp) ?_
 refine AllReadyH.cons rfl (fun K hK => ?_) AllReadyH.nil
 (try simp only [List.getElem_toArray, List.getElem_cons_zero, List.getElem_cons_succ])
 go_simp
 refine hK.out _ _ (KF.out) (fun hHeld => ?_)
 clear hK K
 (try simp only [Act.put, List.setIfInBounds_toArray, List.set_cons_zero, List.set_cons_succ])
 refine wpAnyH_take (i := 5) (v := ?v4_5) rfl (by kernel_rfl) (by kernel_rfl) (by kernel_rfl) (fun _ _ _ h => h) (Or.inl ⟨by rfl, ?hy4_5⟩) hHeld ?_
 case hy4_5 => (intro w hSw; (try dsimp only at hSw); go_simp; first | done | with_reducible rfl)
 simp only [Act.put, List.setIfInBounds_toArray, List.set_cons_zero, List.set_cons_succ, List.getElem_toArray, List.getElem_cons_zero, List.getElem_cons_succ]
 refine wpAnyH_done (by kernel_rfl) ?_ _
 go_wp2_with fail
 (try simp only [Exit.inBlock, Exit.then])
 refine bodyPost_ret (v := .tuple #[.agg #[.slice A3 n3 c3, .slice P3 m3 d3], .string (bl (shapeT f))]) ?_ rfl HE.out
 exact Eq.trans (results_two_tmp (p := 4) (u := 5) rfl _ _ (w.heap.size + 1) _ _ _ rfl HT.out Tryz.underlying26 rfl desk_size) rfl
set_option maxRecDepth 100000 in
set_option maxHeartbeats 3200000 in
theorem sq5_c {f : List Nat} (hf : MapN f) (A P : Option Addr) (c m d : Nat) (yss : List (List Int)) (w : World) (h : RdD w w.heap.size A f.length c (ints f) P m d yss) (hok : deskOkB (ints f) yss = true) :
    Calls Tryz.prog 10 #[.agg #[.slice A f.length c, .slice P m d], .string ⟨#[105, 109, 97, 103, 101]⟩] w (LineO w (ints f) yss (bl (ask f 5))) := by
 have hrd : rdV [105, 109, 97, 103, 101] = ((0, 0, 0, []), false) := by decide
 have KRD : ∀ W, Calls Tryz.prog 48 #[.string ⟨#[105, 109, 97, 103, 101]⟩] W (RdOut (rdV [105, 109, 97, 103, 101]) W) := fun W => sReadDeed_c [105, 109, 97, 103, 101] W (by decide)
 rw [hrd] at KRD
 unfold RdOut at KRD
 simp only at KRD
 clear hrd
 have h7 := hf.le7
 have h1p := hf.pos
 have hfit := (desk_fit hok).2.2
 have hW : Below w.heap.size w ((w.alloc (.cells #[.slice A f.length c, .slice P m d] 26)).alloc (.cells #[.slice none 0 0, .slice none 0 0] 26)) := ((Below.refl _ _).alloc (Nat.le_refl _) _).alloc (by simp) _
 have h1 := h.up hW
 have hr1 := Two.made (w.alloc (.cells #[.slice A f.length c, .slice P m d] 26)) 26 (.slice none 0 0) (.slice none 0 0)
 have ha := (Two.made w 26 (.slice A f.length c) (.slice P m d)).alloc (.cells #[.slice none 0 0, .slice none 0 0] 26)
 simp only [World.size_alloc] at hr1
 have K1 := sDeskOk_c A P f.length c m d (ints f) yss _ h1
 rw [hok] at K1
 go_enter Tryz.func10, Tryz.ntmps10
 go_wp2_with fail
 generalize ((w.alloc (.cells #[.slice A f.length c, .slice P m d] 26)).alloc (.cells #[.slice none 0 0, .slice none 0 0] 26)) = w1 at *
 refine K1.mono ?_
 rintro e w2 ⟨rfl, hb2⟩
 have h2 := h1.up hb2
 have hr2 := hr1.up hb2
 have ha2 := ha.up hb2
 have hB2 := bt hW hb2
 have hlo9 : w.heap.size + 2 ≤ w2.heap.size := hr2.1
 obtain ⟨_, a0, a1, _, _⟩ := id ha2
 clear K1 h1 hr1 ha hW hb2
 go_wp2_with fail
 clear a0 a1
 refine (sCopy_c A P f.length c m d (ints f) yss _ h2 (by omega) (by omega) hfit).mono ?_
 rintro e w3 ⟨A3, n3, c3, P3, m3, d3, rfl, hO3, hb3⟩
 have hbA := below_new w3 (.cells #[.slice A3 n3 c3, .slice P3 m3 d3] 26)
 have h4 := (h2.up hb3).up hbA
 have hr4 := (hr2.up hb3).up hbA
 have ha4 := (ha2.up hb3).up hbA
 have hS4 := Two.made w3 26 (.slice A3 n3 c3) (.slice P3 m3 d3)
 have hO4 := hO3.up hbA
 have hB4 := bt (bt hB2 hb3) hbA
 have hz3 := hb3.size
 clear h2 hr2 ha2 hB2 hb3 hbA hO3
 go_wp2_with fail
 generalize w3.alloc (.cells #[.slice A3 n3 c3, .slice P3 m3 d3] 26) = w4 at *
 refine (KRD w4).mono ?_
 rintro e w5 ⟨rfl, hb5⟩
 have hbA := below_new w5 (.cells #[.int .i64 0, .int .i64 0, .int .i64 0, .string (bl [])] 55)
 have D9 := (h4.up hb5).up hbA
 have R9 := (hr4.up hb5).up hbA
 have T5 := (ha4.up hb5).up hbA
 have S9 := (hS4.up hb5).up hbA
 have O9 := (hO4.up hb5).up hbA
 have B9 := bt (bt hB4 hb5) hbA
 clear h4 hr4 ha4 hS4 hO4 hB4 hb5 hbA
 obtain ⟨a9z, a90, a91, _, _⟩ := id T5
 obtain ⟨s9z, s90, s91, _, _⟩ := id S9
 have hn : (imgN f).length ≤ 1000000 := by have := img_le f h7; omega
 clear KRD
 go_upto_region 30 with fail
 generalize w5.alloc (.cells #[.int .i64 0, .int .i64 0, .int .i64 0, .string (bl [])] 55) = w9 at *
 have KC : Hid (∀ W, Below w9.heap.size w9 W → World.cell? W ⟨w.heap.size, 0, none⟩ = some (.slice A f.length c) ∧ World.cell? W ⟨w.heap.size, 1, none⟩ = some (.slice P m d) ∧ World.cell? W ⟨w3.heap.size, 0, none⟩ = some (.slice A3 n3 c3) ∧ World.cell? W ⟨w3.heap.size, 1, none⟩ = some (.slice P3 m3 d3)) := Lib.hid (fun W h => ⟨(h.cell (p := ⟨w.heap.size, 0, none⟩) a9z).trans a90, (h.cell (p := ⟨w.heap.size, 1, none⟩) a9z).trans a91, (h.cell (p := ⟨w3.heap.size, 0, none⟩) s9z).trans s90, (h.cell (p := ⟨w3.heap.size, 1, none⟩) s9z).trans s91⟩)
 have C0 : Hid (Below w9.heap.size w9 w9.drew) := Lib.hid (bd (Below.refl _ _) 1)
 refine wp_region_held_drew (S := fun W => World.cell? W ⟨w.heap.size, 0, none⟩ = some (.slice A f.length c) ∧ World.cell? W ⟨w.heap.size, 1, none⟩ = some (.slice P m d) ∧ World.cell? W ⟨w3.heap.size, 0, none⟩ = some (.slice A3 n3 c3) ∧ World.cell? W ⟨w3.heap.size, 1, none⟩ = some (.slice P3 m3 d3)) (by kernel_rfl) (KC.out _ C0.out) (fun hHeld => ?_)
 refine wpAnyH_take (i := 0) (v := ?v5_0) rfl (by kernel_rfl) (by kernel_rfl) (by kernel_rfl) (fun _ _ _ h => h) (Or.inl ⟨by rfl, ?hy5_0⟩) hHeld ?_
 case hy5_0 => (intro w hSw; (try dsimp only at hSw); go_simp; first | done | with_reducible rfl)
 simp only [Act.put, List.setIfInBounds_toArray, List.set_cons_zero, List.set_cons_succ, List.getElem_toArray, List.getElem_cons_zero]
 refine wpAnyH_take (i := 1) (v := ?v5_1) rfl (by kernel_rfl) (by kernel_rfl) (by kernel_rfl) (fun _ _ _ h => h) (Or.inl ⟨by rfl, ?hy5_1⟩) hHeld ?_
 case hy5_1 => (intro w hSw; (try dsimp only at hSw); go_simp; first | done | with_reducible rfl)
 simp only [Act.put, List.setIfInBounds_toArray, List.set_cons_zero, List.set_cons_succ, List.getElem_toArray, List.getElem_cons_zero, List.getElem_cons_succ]
 refine wpAnyH_take (i := 2) (v := ?v5_2) rfl (by kernel_rfl) (by kernel_rfl) (by kernel_rfl) (fun _ _ _ h => h) (Or.inl ⟨by rfl, ?hy5_2⟩) hHeld ?_
 case hy5_2 => (intro w hSw; (try dsimp only at hSw); go_simp; first | done | with_reducible rfl)
 simp only [Act.put, List.setIfInBounds_toArray, List.set_cons_zero, List.set_cons_succ, List.getElem_toArray, List.getElem_cons_zero, List.getElem_cons_succ]
 refine wpAnyH_ready (rs := [3]) (by kernel_rfl) (by simp) ?_
 refine AllReadyH.cons rfl (fun K hK => ?_) AllReadyH.nil
 (try simp only [List.getElem_toArray, List.getElem_cons_zero, List.getElem_cons_succ])
 go_simp
 refine (sImg_c hf A c _ (D9.1.up C0.out)).mono ?_
 rintro e x1 ⟨A8, c8, rfl, hx1⟩
 have C1 := Lib.hid (show Below w9.heap.size w9 x1 from bt C0.out hx1)
 clear hx1
 go_wp2_with fail
 refine hK.out _ _ (KC.out _ C1.out) (fun hHeld => ?_)
 clear hK K
 (try simp only [Act.put, List.setIfInBounds_toArray, List.set_cons_zero, List.set_cons_succ])
 refine wpAnyH_take (i := 4) (v := ?v5_4) rfl (by kernel_rfl) (by kernel_rfl) (by kernel_rfl) (fun _ _ _ h => h) (Or.inl ⟨by rfl, ?hy5_4⟩) hHeld ?_
 case hy5_4 => (intro w hSw; (try dsimp only at hSw); go_simp; first | done | with_reducible rfl)
 simp only [Act.put, List.setIfInBounds_toArray, List.set_cons_zero, List.set_cons_succ, List.getElem_toArray, List.getElem_cons_zero, List.getElem_cons_succ]
 refine wpAnyH_ready (rs := [5]) (by kernel_rfl) (by simp) ?_
 refine AllReadyH.cons rfl (fun K hK => ?_) AllReadyH.nil
 (try simp only [List.getElem_toArray, List.getElem_cons_zero, List.getElem_cons_succ])
 go_simp
 refine (sNum_c ((imgN f).length) _ hn).mono ?_
 rintro e x2 ⟨rfl, hx2⟩
 have C2 := Lib.hid (show Below w9.heap.size w9 x2 from bt C1.out hx2)
 clear hx2
 have R2 := R9.up C2.out
 have hz2 := C2.out.size
 have hr9z := R9.1
 obtain ⟨_, s0, s1, s2, s3⟩ := id R2
 obtain ⟨HE, HT⟩ := line_end (w := w) (decX (imgN f).length) R2 (O9.up C2.out) hlo9 (by omega) (bt B9 C2.out)
 have HE := Lib.hid HE
 have HT := Lib.hid HT
 have KF : Hid (World.cell? ((x2.setCell ⟨w.heap.size + 1, 0, none⟩ (.slice A3 n3 c3)).setCell ⟨w.heap.size + 1, 1, none⟩ (.slice P3 m3 d3)) ⟨w.heap.size, 0, none⟩ = some (.slice A f.length c) ∧ World.cell? ((x2.setCell ⟨w.heap.size + 1, 0, none⟩ (.slice A3 n3 c3)).setCell ⟨w.heap.size + 1, 1, none⟩ (.slice P3 m3 d3)) ⟨w.heap.size, 1, none⟩ = some (.slice P m d) ∧ World.cell? ((x2.setCell ⟨w.heap.size + 1, 0, none⟩ (.slice A3 n3 c3)).setCell ⟨w.heap.size + 1, 1, none⟩ (.slice P3 m3 d3)) ⟨w3.heap.size, 0, none⟩ = some (.slice A3 n3 c3) ∧ World.cell? ((x2.setCell ⟨w.heap.size + 1, 0, none⟩ (.slice A3 n3 c3)).setCell ⟨w.heap.size + 1, 1, none⟩ (.slice P3 m3 d3)) ⟨w3.heap.size, 1, none⟩ = some (.slice P3 m3 d3)) := Lib.hid ⟨farc (by omega) (KC.out _ C2.out).1, farc (by omega) (KC.out _ C2.out).2.1, farc (by omega) (KC.out _ C2.out).2.2.1, farc (by omega) (KC.out _ C2.out).2.2.2⟩
 clear R2
 go_wp2_with fail
 refine hK.out _ _ (KC.out _ C2.out) (fun hHeld => ?_)
 clear hK K
 (try simp only [Act.put, List.setIfInBounds_toArray, List.set_cons_zero, List.set_cons_succ])
 refine wpAnyH_ready (rs := [6]) (by kernel_rfl) (by simp) ?_
 refine AllReadyH.cons rfl (fun K hK => ?_) AllReadyH.nil
 (try simp only [List.getElem_toArray, List.getElem_cons_zero, List.getElem_cons_succ])
 go_simp
 refine hK.out _ _ (KF.out) (fun hHeld => ?_)
 clear hK K
 (try simp only [Act.put, List.setIfInBounds_toArray, List.set_cons_zero, List.set_cons_succ])
 refine wpAnyH_take (i := 7) (v := ?v5_7) rfl (by kernel_rfl) (by kernel_rfl) (by kernel_rfl) (fun _ _ _ h => h) (Or.inl ⟨by rfl, ?hy5_7⟩) hHeld ?_
 case hy5_7 => (intro w hSw; (try dsimp only at hSw); go_simp; first | done | with_reducible rfl)
 simp only [Act.put, List.setIfInBounds_toArray, List.set_cons_zero, List.set_cons_succ, List.getElem_toArray, List.getElem_cons_zero, List.getElem_cons_succ]
 refine wpAnyH_done (by kernel_rfl) ?_ _
 go_wp2_with fail
 (try simp only [Exit.inBlock, Exit.then])
 refine bodyPost_ret (v := .tuple #[.agg #[.slice A3 n3 c3, .slice P3 m3 d3], .string (decX (imgN f).length)]) ?_ rfl HE.out
 exact Eq.trans (results_two_tmp (p := 4) (u := 5) rfl _ _ (w.heap.size + 1) _ _ _ rfl HT.out Tryz.underlying26 rfl desk_size) rfl
set_option maxRecDepth 100000 in
set_option maxHeartbeats 3200000 in
theorem sq6_c {f : List Nat} (hf : MapN f) (A P : Option Addr) (c m d : Nat) (yss : List (List Int)) (w : World) (h : RdD w w.heap.size A f.length c (ints f) P m d yss) (hok : deskOkB (ints f) yss = true) :
    Calls Tryz.prog 10 #[.agg #[.slice A f.length c, .slice P m d], .string ⟨#[103, 97, 114, 100, 101, 110]⟩] w (LineO w (ints f) yss (bl (ask f 6))) := by
 have hrd : rdV [103, 97, 114, 100, 101, 110] = ((0, 0, 0, []), false) := by decide
 have KRD : ∀ W, Calls Tryz.prog 48 #[.string ⟨#[103, 97, 114, 100, 101, 110]⟩] W (RdOut (rdV [103, 97, 114, 100, 101, 110]) W) := fun W => sReadDeed_c [103, 97, 114, 100, 101, 110] W (by decide)
 rw [hrd] at KRD
 unfold RdOut at KRD
 simp only at KRD
 clear hrd
 have h7 := hf.le7
 have h1p := hf.pos
 have hfit := (desk_fit hok).2.2
 have hW : Below w.heap.size w ((w.alloc (.cells #[.slice A f.length c, .slice P m d] 26)).alloc (.cells #[.slice none 0 0, .slice none 0 0] 26)) := ((Below.refl _ _).alloc (Nat.le_refl _) _).alloc (by simp) _
 have h1 := h.up hW
 have hr1 := Two.made (w.alloc (.cells #[.slice A f.length c, .slice P m d] 26)) 26 (.slice none 0 0) (.slice none 0 0)
 have ha := (Two.made w 26 (.slice A f.length c) (.slice P m d)).alloc (.cells #[.slice none 0 0, .slice none 0 0] 26)
 simp only [World.size_alloc] at hr1
 have K1 := sDeskOk_c A P f.length c m d (ints f) yss _ h1
 rw [hok] at K1
 go_enter Tryz.func10, Tryz.ntmps10
 go_wp2_with fail
 generalize ((w.alloc (.cells #[.slice A f.length c, .slice P m d] 26)).alloc (.cells #[.slice none 0 0, .slice none 0 0] 26)) = w1 at *
 refine K1.mono ?_
 rintro e w2 ⟨rfl, hb2⟩
 have h2 := h1.up hb2
 have hr2 := hr1.up hb2
 have ha2 := ha.up hb2
 have hB2 := bt hW hb2
 have hlo9 : w.heap.size + 2 ≤ w2.heap.size := hr2.1
 obtain ⟨_, a0, a1, _, _⟩ := id ha2
 clear K1 h1 hr1 ha hW hb2
 go_wp2_with fail
 clear a0 a1
 refine (sCopy_c A P f.length c m d (ints f) yss _ h2 (by omega) (by omega) hfit).mono ?_
 rintro e w3 ⟨A3, n3, c3, P3, m3, d3, rfl, hO3, hb3⟩
 have hbA := below_new w3 (.cells #[.slice A3 n3 c3, .slice P3 m3 d3] 26)
 have h4 := (h2.up hb3).up hbA
 have hr4 := (hr2.up hb3).up hbA
 have ha4 := (ha2.up hb3).up hbA
 have hS4 := Two.made w3 26 (.slice A3 n3 c3) (.slice P3 m3 d3)
 have hO4 := hO3.up hbA
 have hB4 := bt (bt hB2 hb3) hbA
 have hz3 := hb3.size
 clear h2 hr2 ha2 hB2 hb3 hbA hO3
 go_wp2_with fail
 generalize w3.alloc (.cells #[.slice A3 n3 c3, .slice P3 m3 d3] 26) = w4 at *
 refine (KRD w4).mono ?_
 rintro e w5 ⟨rfl, hb5⟩
 have hbA := below_new w5 (.cells #[.int .i64 0, .int .i64 0, .int .i64 0, .string (bl [])] 55)
 have D9 := (h4.up hb5).up hbA
 have R9 := (hr4.up hb5).up hbA
 have T5 := (ha4.up hb5).up hbA
 have S9 := (hS4.up hb5).up hbA
 have O9 := (hO4.up hb5).up hbA
 have B9 := bt (bt hB4 hb5) hbA
 clear h4 hr4 ha4 hS4 hO4 hB4 hb5 hbA
 obtain ⟨a9z, a90, a91, _, _⟩ := id T5
 obtain ⟨s9z, s90, s91, _, _⟩ := id S9
 have hn : gardenN f ≤ 1000000 := by have := garden_le hf; omega
 clear KRD
 go_upto_region 32 with fail
 generalize w5.alloc (.cells #[.int .i64 0, .int .i64 0, .int .i64 0, .string (bl [])] 55) = w9 at *
 have KC : Hid (∀ W, Below w9.heap.size w9 W → World.cell? W ⟨w.heap.size, 0, none⟩ = some (.slice A f.length c) ∧ World.cell? W ⟨w.heap.size, 1, none⟩ = some (.slice P m d) ∧ World.cell? W ⟨w3.heap.size, 0, none⟩ = some (.slice A3 n3 c3) ∧ World.cell? W ⟨w3.heap.size, 1, none⟩ = some (.slice P3 m3 d3)) := Lib.hid (fun W h => ⟨(h.cell (p := ⟨w.heap.size, 0, none⟩) a9z).trans a90, (h.cell (p := ⟨w.heap.size, 1, none⟩) a9z).trans a91, (h.cell (p := ⟨w3.heap.size, 0, none⟩) s9z).trans s90, (h.cell (p := ⟨w3.heap.size, 1, none⟩) s9z).trans s91⟩)
 have C0 : Hid (Below w9.heap.size w9 w9.drew) := Lib.hid (bd (Below.refl _ _) 1)
 refine wp_region_held_drew (S := fun W => World.cell? W ⟨w.heap.size, 0, none⟩ = some (.slice A f.length c) ∧ World.cell? W ⟨w.heap.size, 1, none⟩ = some (.slice P m d) ∧ World.cell? W ⟨w3.heap.size, 0, none⟩ = some (.slice A3 n3 c3) ∧ World.cell? W ⟨w3.heap.size, 1, none⟩ = some (.slice P3 m3 d3)) (by kernel_rfl) (KC.out _ C0.out) (fun hHeld => ?_)
 refine wpAnyH_take (i := 0) (v := ?v6_0) rfl (by kernel_rfl) (by kernel_rfl) (by kernel_rfl) (fun _ _ _ h => h) (Or.inl ⟨by rfl, ?hy6_0⟩) hHeld ?_
 case hy6_0 => (intro w hSw; (try dsimp only at hSw); go_simp; first | done | with_reducible rfl)
 simp only [Act.put, List.setIfInBounds_toArray, List.set_cons_zero, List.set_cons_succ, List.getElem_toArray, List.getElem_cons_zero]
 refine wpAnyH_take (i := 1) (v := ?v6_1) rfl (by kernel_rfl) (by kernel_rfl) (by kernel_rfl) (fun _ _ _ h => h) (Or.inl ⟨by rfl, ?hy6_1⟩) hHeld ?_
 case hy6_1 => (intro w hSw; (try dsimp only at hSw); go_simp; first | done | with_reducible rfl)
 simp only [Act.put, List.setIfInBounds_toArray, List.set_cons_zero, List.set_cons_succ, List.getElem_toArray, List.getElem_cons_zero, List.getElem_cons_succ]
 refine wpAnyH_take (i := 2) (v := ?v6_2) rfl (by kernel_rfl) (by kernel_rfl) (by kernel_rfl) (fun _ _ _ h => h) (Or.inl ⟨by rfl, ?hy6_2⟩) hHeld ?_
 case hy6_2 => (intro w hSw; (try dsimp only at hSw); go_simp; first | done | with_reducible rfl)
 simp only [Act.put, List.setIfInBounds_toArray, List.set_cons_zero, List.set_cons_succ, List.getElem_toArray, List.getElem_cons_zero, List.getElem_cons_succ]
 refine wpAnyH_ready (rs := [3]) (by kernel_rfl) (by simp) ?_
 refine AllReadyH.cons rfl (fun K hK => ?_) AllReadyH.nil
 (try simp only [List.getElem_toArray, List.getElem_cons_zero, List.getElem_cons_succ])
 go_simp
 refine (sGard_c hf A c _ (D9.1.up C0.out)).mono ?_
 rintro e x1 ⟨rfl, q1, hx1⟩
 have C1 := Lib.hid (show Below w9.heap.size w9 x1 from by rw [hx1]; exact bd C0.out _)
 clear hx1
 go_wp2_with fail
 refine hK.out _ _ (KC.out _ C1.out) (fun hHeld => ?_)
 clear hK K
 (try simp only [Act.put, List.setIfInBounds_toArray, List.set_cons_zero, List.set_cons_succ])
 refine wpAnyH_ready (rs := [4]) (by kernel_rfl) (by simp) ?_
 refine AllReadyH.cons rfl (fun K hK => ?_) AllReadyH.nil
 (try simp only [List.getElem_toArray, List.getElem_cons_zero, List.getElem_cons_succ])
 go_simp
 refine (sNum_c (gardenN f) _ hn).mono ?_
 rintro e x2 ⟨rfl, hx2⟩
 have C2 := Lib.hid (show Below w9.heap.size w9 x2 from bt C1.out hx2)
 clear hx2
 have R2 := R9.up C2.out
 have hz2 := C2.out.size
 have hr9z := R9.1
 obtain ⟨_, s0, s1, s2, s3⟩ := id R2
 obtain ⟨HE, HT⟩ := line_end (w := w) (decX (gardenN f)) R2 (O9.up C2.out) hlo9 (by omega) (bt B9 C2.out)
 have HE := Lib.hid HE
 have HT := Lib.hid HT
 have KF : Hid (World.cell? ((x2.setCell ⟨w.heap.size + 1, 0, none⟩ (.slice A3 n3 c3)).setCell ⟨w.heap.size + 1, 1, none⟩ (.slice P3 m3 d3)) ⟨w.heap.size, 0, none⟩ = some (.slice A f.length c) ∧ World.cell? ((x2.setCell ⟨w.heap.size + 1, 0, none⟩ (.slice A3 n3 c3)).setCell ⟨w.heap.size + 1, 1, none⟩ (.slice P3 m3 d3)) ⟨w.heap.size, 1, none⟩ = some (.slice P m d) ∧ World.cell? ((x2.setCell ⟨w.heap.size + 1, 0, none⟩ (.slice A3 n3 c3)).setCell ⟨w.heap.size + 1, 1, none⟩ (.slice P3 m3 d3)) ⟨w3.heap.size, 0, none⟩ = some (.slice A3 n3 c3) ∧ World.cell? ((x2.setCell ⟨w.heap.size + 1, 0, none⟩ (.slice A3 n3 c3)).setCell ⟨w.heap.size + 1, 1, none⟩ (.slice P3 m3 d3)) ⟨w3.heap.size, 1, none⟩ = some (.slice P3 m3 d3)) := Lib.hid ⟨farc (by omega) (KC.out _ C2.out).1, farc (by omega) (KC.out _ C2.out).2.1, farc (by omega) (KC.out _ C2.out).2.2.1, farc (by omega) (KC.out _ C2.out).2.2.2⟩
 clear R2
 go_wp2_with fail
 refine hK.out _ _ (KC.out _ C2.out) (fun hHeld => ?_)
 clear hK K
 (try simp only [Act.put, List.setIfInBounds_toArray, List.set_cons_zero, List.set_cons_succ])
 refine wpAnyH_ready (rs := [5]) (by kernel_rfl) (by simp) ?_
 refine AllReadyH.cons rfl (fun K hK => ?_) AllReadyH.nil
 (try simp only [List.getElem_toArray, List.getElem_cons_zero, List.getElem_cons_succ])
 go_simp
 refine hK.out _ _ (KF.out) (fun hHeld => ?_)
 clear hK K
 (try simp only [Act.put, List.setIfInBounds_toArray, List.set_cons_zero, List.set_cons_succ])
 refine wpAnyH_take (i := 6) (v := ?v6_6) rfl (by kernel_rfl) (by kernel_rfl) (by kernel_rfl) (fun _ _ _ h => h) (Or.inl ⟨by rfl, ?hy6_6⟩) hHeld ?_
 case hy6_6 => (intro w hSw; (try dsimp only at hSw); go_simp; first | done | with_reducible rfl)
 simp only [Act.put, List.setIfInBounds_toArray, List.set_cons_zero, List.set_cons_succ, List.getElem_toArray, List.getElem_cons_zero, List.getElem_cons_succ]
 refine wpAnyH_done (by kernel_rfl) ?_ _
 go_wp2_with fail
 (try simp only [Exit.inBlock, Exit.then])
 refine bodyPost_ret (v := .tuple #[.agg #[.slice A3 n3 c3, .slice P3 m3 d3], .string (decX (gardenN f))]) ?_ rfl HE.out
 exact Eq.trans (results_two_tmp (p := 4) (u := 5) rfl _ _ (w.heap.size + 1) _ _ _ rfl HT.out Tryz.underlying26 rfl desk_size) rfl
set_option maxRecDepth 100000 in
set_option maxHeartbeats 3200000 in
theorem sq7_c {f : List Nat} (hf : MapN f) (A P : Option Addr) (c m d : Nat) (yss : List (List Int)) (w : World) (h : RdD w w.heap.size A f.length c (ints f) P m d yss) (hok : deskOkB (ints f) yss = true) :
    Calls Tryz.prog 10 #[.agg #[.slice A f.length c, .slice P m d], .string ⟨#[99, 108, 111, 115, 101, 100]⟩] w (LineO w (ints f) yss (bl (ask f 7))) := by
 have hrd : rdV [99, 108, 111, 115, 101, 100] = ((0, 0, 0, []), false) := by decide
 have KRD : ∀ W, Calls Tryz.prog 48 #[.string ⟨#[99, 108, 111, 115, 101, 100]⟩] W (RdOut (rdV [99, 108, 111, 115, 101, 100]) W) := fun W => sReadDeed_c [99, 108, 111, 115, 101, 100] W (by decide)
 rw [hrd] at KRD
 unfold RdOut at KRD
 simp only at KRD
 clear hrd
 have h7 := hf.le7
 have h1p := hf.pos
 have hfit := (desk_fit hok).2.2
 have hW : Below w.heap.size w ((w.alloc (.cells #[.slice A f.length c, .slice P m d] 26)).alloc (.cells #[.slice none 0 0, .slice none 0 0] 26)) := ((Below.refl _ _).alloc (Nat.le_refl _) _).alloc (by simp) _
 have h1 := h.up hW
 have hr1 := Two.made (w.alloc (.cells #[.slice A f.length c, .slice P m d] 26)) 26 (.slice none 0 0) (.slice none 0 0)
 have ha := (Two.made w 26 (.slice A f.length c) (.slice P m d)).alloc (.cells #[.slice none 0 0, .slice none 0 0] 26)
 simp only [World.size_alloc] at hr1
 have K1 := sDeskOk_c A P f.length c m d (ints f) yss _ h1
 rw [hok] at K1
 go_enter Tryz.func10, Tryz.ntmps10
 go_wp2_with fail
 generalize ((w.alloc (.cells #[.slice A f.length c, .slice P m d] 26)).alloc (.cells #[.slice none 0 0, .slice none 0 0] 26)) = w1 at *
 refine K1.mono ?_
 rintro e w2 ⟨rfl, hb2⟩
 have h2 := h1.up hb2
 have hr2 := hr1.up hb2
 have ha2 := ha.up hb2
 have hB2 := bt hW hb2
 have hlo9 : w.heap.size + 2 ≤ w2.heap.size := hr2.1
 obtain ⟨_, a0, a1, _, _⟩ := id ha2
 clear K1 h1 hr1 ha hW hb2
 go_wp2_with fail
 clear a0 a1
 refine (sCopy_c A P f.length c m d (ints f) yss _ h2 (by omega) (by omega) hfit).mono ?_
 rintro e w3 ⟨A3, n3, c3, P3, m3, d3, rfl, hO3, hb3⟩
 have hbA := below_new w3 (.cells #[.slice A3 n3 c3, .slice P3 m3 d3] 26)
 have h4 := (h2.up hb3).up hbA
 have hr4 := (hr2.up hb3).up hbA
 have ha4 := (ha2.up hb3).up hbA
 have hS4 := Two.made w3 26 (.slice A3 n3 c3) (.slice P3 m3 d3)
 have hO4 := hO3.up hbA
 have hB4 := bt (bt hB2 hb3) hbA
 have hz3 := hb3.size
 clear h2 hr2 ha2 hB2 hb3 hbA hO3
 go_wp2_with fail
 generalize w3.alloc (.cells #[.slice A3 n3 c3, .slice P3 m3 d3] 26) = w4 at *
 refine (KRD w4).mono ?_
 rintro e w5 ⟨rfl, hb5⟩
 have hbA := below_new w5 (.cells #[.int .i64 0, .int .i64 0, .int .i64 0, .string (bl [])] 55)
 have D9 := (h4.up hb5).up hbA
 have R9 := (hr4.up hb5).up hbA
 have T5 := (ha4.up hb5).up hbA
 have S9 := (hS4.up hb5).up hbA
 have O9 := (hO4.up hb5).up hbA
 have B9 := bt (bt hB4 hb5) hbA
 clear h4 hr4 ha4 hS4 hO4 hB4 hb5 hbA
 obtain ⟨a9z, a90, a91, _, _⟩ := id T5
 obtain ⟨s9z, s90, s91, _, _⟩ := id S9
 have hn : (clsN f).length ≤ 1000000 := by have := cls_le hf; omega
 clear KRD
 go_upto_region 34 with fail
 generalize w5.alloc (.cells #[.int .i64 0, .int .i64 0, .int .i64 0, .string (bl [])] 55) = w9 at *
 have KC : Hid (∀ W, Below w9.heap.size w9 W → World.cell? W ⟨w.heap.size, 0, none⟩ = some (.slice A f.length c) ∧ World.cell? W ⟨w.heap.size, 1, none⟩ = some (.slice P m d) ∧ World.cell? W ⟨w3.heap.size, 0, none⟩ = some (.slice A3 n3 c3) ∧ World.cell? W ⟨w3.heap.size, 1, none⟩ = some (.slice P3 m3 d3)) := Lib.hid (fun W h => ⟨(h.cell (p := ⟨w.heap.size, 0, none⟩) a9z).trans a90, (h.cell (p := ⟨w.heap.size, 1, none⟩) a9z).trans a91, (h.cell (p := ⟨w3.heap.size, 0, none⟩) s9z).trans s90, (h.cell (p := ⟨w3.heap.size, 1, none⟩) s9z).trans s91⟩)
 have C0 : Hid (Below w9.heap.size w9 w9.drew) := Lib.hid (bd (Below.refl _ _) 1)
 refine wp_region_held_drew (S := fun W => World.cell? W ⟨w.heap.size, 0, none⟩ = some (.slice A f.length c) ∧ World.cell? W ⟨w.heap.size, 1, none⟩ = some (.slice P m d) ∧ World.cell? W ⟨w3.heap.size, 0, none⟩ = some (.slice A3 n3 c3) ∧ World.cell? W ⟨w3.heap.size, 1, none⟩ = some (.slice P3 m3 d3)) (by kernel_rfl) (KC.out _ C0.out) (fun hHeld => ?_)
 refine wpAnyH_take (i := 0) (v := ?v7_0) rfl (by kernel_rfl) (by kernel_rfl) (by kernel_rfl) (fun _ _ _ h => h) (Or.inl ⟨by rfl, ?hy7_0⟩) hHeld ?_
 case hy7_0 => (intro w hSw; (try dsimp only at hSw); go_simp; first | done | with_reducible rfl)
 simp only [Act.put, List.setIfInBounds_toArray, List.set_cons_zero, List.set_cons_succ, List.getElem_toArray, List.getElem_cons_zero]
 refine wpAnyH_take (i := 1) (v := ?v7_1) rfl (by kernel_rfl) (by kernel_rfl) (by kernel_rfl) (fun _ _ _ h => h) (Or.inl ⟨by rfl, ?hy7_1⟩) hHeld ?_
 case hy7_1 => (intro w hSw; (try dsimp only at hSw); go_simp; first | done | with_reducible rfl)
 simp only [Act.put, List.setIfInBounds_toArray, List.set_cons_zero, List.set_cons_succ, List.getElem_toArray, List.getElem_cons_zero, List.getElem_cons_succ]
 refine wpAnyH_take (i := 2) (v := ?v7_2) rfl (by kernel_rfl) (by kernel_rfl) (by kernel_rfl) (fun _ _ _ h => h) (Or.inl ⟨by rfl, ?hy7_2⟩) hHeld ?_
 case hy7_2 => (intro w hSw; (try dsimp only at hSw); go_simp; first | done | with_reducible rfl)
 simp only [Act.put, List.setIfInBounds_toArray, List.set_cons_zero, List.set_cons_succ, List.getElem_toArray, List.getElem_cons_zero, List.getElem_cons_succ]
 refine wpAnyH_ready (rs := [3]) (by kernel_rfl) (by simp) ?_
 refine AllReadyH.cons rfl (fun K hK => ?_) AllReadyH.nil
 (try simp only [List.getElem_toArray, List.getElem_cons_zero, List.getElem_cons_succ])
 go_simp
 refine (sCls_c hf A c _ (D9.1.up C0.out)).mono ?_
 rintro e x1 ⟨A8, c8, rfl, hx1⟩
 have C1 := Lib.hid (show Below w9.heap.size w9 x1 from bt C0.out hx1)
 clear hx1
 go_wp2_with fail
 refine hK.out _ _ (KC.out _ C1.out) (fun hHeld => ?_)
 clear hK K
 (try simp only [Act.put, List.setIfInBounds_toArray, List.set_cons_zero, List.set_cons_succ])
 refine wpAnyH_take (i := 4) (v := ?v7_4) rfl (by kernel_rfl) (by kernel_rfl) (by kernel_rfl) (fun _ _ _ h => h) (Or.inl ⟨by rfl, ?hy7_4⟩) hHeld ?_
 case hy7_4 => (intro w hSw; (try dsimp only at hSw); go_simp; first | done | with_reducible rfl)
 simp only [Act.put, List.setIfInBounds_toArray, List.set_cons_zero, List.set_cons_succ, List.getElem_toArray, List.getElem_cons_zero, List.getElem_cons_succ]
 refine wpAnyH_ready (rs := [5]) (by kernel_rfl) (by simp) ?_
 refine AllReadyH.cons rfl (fun K hK => ?_) AllReadyH.nil
 (try simp only [List.getElem_toArray, List.getElem_cons_zero, List.getElem_cons_succ])
 go_simp
 refine (sNum_c ((clsN f).length) _ hn).mono ?_
 rintro e x2 ⟨rfl, hx2⟩
 have C2 := Lib.hid (show Below w9.heap.size w9 x2 from bt C1.out hx2)
 clear hx2
 have R2 := R9.up C2.out
 have hz2 := C2.out.size
 have hr9z := R9.1
 obtain ⟨_, s0, s1, s2, s3⟩ := id R2
 obtain ⟨HE, HT⟩ := line_end (w := w) (decX (clsN f).length) R2 (O9.up C2.out) hlo9 (by omega) (bt B9 C2.out)
 have HE := Lib.hid HE
 have HT := Lib.hid HT
 have KF : Hid (World.cell? ((x2.setCell ⟨w.heap.size + 1, 0, none⟩ (.slice A3 n3 c3)).setCell ⟨w.heap.size + 1, 1, none⟩ (.slice P3 m3 d3)) ⟨w.heap.size, 0, none⟩ = some (.slice A f.length c) ∧ World.cell? ((x2.setCell ⟨w.heap.size + 1, 0, none⟩ (.slice A3 n3 c3)).setCell ⟨w.heap.size + 1, 1, none⟩ (.slice P3 m3 d3)) ⟨w.heap.size, 1, none⟩ = some (.slice P m d) ∧ World.cell? ((x2.setCell ⟨w.heap.size + 1, 0, none⟩ (.slice A3 n3 c3)).setCell ⟨w.heap.size + 1, 1, none⟩ (.slice P3 m3 d3)) ⟨w3.heap.size, 0, none⟩ = some (.slice A3 n3 c3) ∧ World.cell? ((x2.setCell ⟨w.heap.size + 1, 0, none⟩ (.slice A3 n3 c3)).setCell ⟨w.heap.size + 1, 1, none⟩ (.slice P3 m3 d3)) ⟨w3.heap.size, 1, none⟩ = some (.slice P3 m3 d3)) := Lib.hid ⟨farc (by omega) (KC.out _ C2.out).1, farc (by omega) (KC.out _ C2.out).2.1, farc (by omega) (KC.out _ C2.out).2.2.1, farc (by omega) (KC.out _ C2.out).2.2.2⟩
 clear R2
 go_wp2_with fail
 refine hK.out _ _ (KC.out _ C2.out) (fun hHeld => ?_)
 clear hK K
 (try simp only [Act.put, List.setIfInBounds_toArray, List.set_cons_zero, List.set_cons_succ])
 refine wpAnyH_ready (rs := [6]) (by kernel_rfl) (by simp) ?_
 refine AllReadyH.cons rfl (fun K hK => ?_) AllReadyH.nil
 (try simp only [List.getElem_toArray, List.getElem_cons_zero, List.getElem_cons_succ])
 go_simp
 refine hK.out _ _ (KF.out) (fun hHeld => ?_)
 clear hK K
 (try simp only [Act.put, List.setIfInBounds_toArray, List.set_cons_zero, List.set_cons_succ])
 refine wpAnyH_take (i := 7) (v := ?v7_7) rfl (by kernel_rfl) (by kernel_rfl) (by kernel_rfl) (fun _ _ _ h => h) (Or.inl ⟨by rfl, ?hy7_7⟩) hHeld ?_
 case hy7_7 => (intro w hSw; (try dsimp only at hSw); go_simp; first | done | with_reducible rfl)
 simp only [Act.put, List.setIfInBounds_toArray, List.set_cons_zero, List.set_cons_succ, List.getElem_toArray, List.getElem_cons_zero, List.getElem_cons_succ]
 refine wpAnyH_done (by kernel_rfl) ?_ _
 go_wp2_with fail
 (try simp only [Exit.inBlock, Exit.then])
 refine bodyPost_ret (v := .tuple #[.agg #[.slice A3 n3 c3, .slice P3 m3 d3], .string (decX (clsN f).length)]) ?_ rfl HE.out
 exact Eq.trans (results_two_tmp (p := 4) (u := 5) rfl _ _ (w.heap.size + 1) _ _ _ rfl HT.out Tryz.underlying26 rfl desk_size) rfl
set_option maxRecDepth 100000 in
set_option maxHeartbeats 3200000 in
theorem sq8_c {f : List Nat} (hf : MapN f) (A P : Option Addr) (c m d : Nat) (yss : List (List Int)) (w : World) (h : RdD w w.heap.size A f.length c (ints f) P m d yss) (hok : deskOkB (ints f) yss = true) :
    Calls Tryz.prog 10 #[.agg #[.slice A f.length c, .slice P m d], .string ⟨#[109, 97, 112, 115]⟩] w (LineO w (ints f) yss (bl (ask f 8))) := by
 have hrd : rdV [109, 97, 112, 115] = ((0, 0, 0, []), false) := by decide
 have KRD : ∀ W, Calls Tryz.prog 48 #[.string ⟨#[109, 97, 112, 115]⟩] W (RdOut (rdV [109, 97, 112, 115]) W) := fun W => sReadDeed_c [109, 97, 112, 115] W (by decide)
 rw [hrd] at KRD
 unfold RdOut at KRD
 simp only at KRD
 clear hrd
 have h7 := hf.le7
 have h1p := hf.pos
 have hfit := (desk_fit hok).2.2
 have hW : Below w.heap.size w ((w.alloc (.cells #[.slice A f.length c, .slice P m d] 26)).alloc (.cells #[.slice none 0 0, .slice none 0 0] 26)) := ((Below.refl _ _).alloc (Nat.le_refl _) _).alloc (by simp) _
 have h1 := h.up hW
 have hr1 := Two.made (w.alloc (.cells #[.slice A f.length c, .slice P m d] 26)) 26 (.slice none 0 0) (.slice none 0 0)
 have ha := (Two.made w 26 (.slice A f.length c) (.slice P m d)).alloc (.cells #[.slice none 0 0, .slice none 0 0] 26)
 simp only [World.size_alloc] at hr1
 have K1 := sDeskOk_c A P f.length c m d (ints f) yss _ h1
 rw [hok] at K1
 go_enter Tryz.func10, Tryz.ntmps10
 go_wp2_with fail
 generalize ((w.alloc (.cells #[.slice A f.length c, .slice P m d] 26)).alloc (.cells #[.slice none 0 0, .slice none 0 0] 26)) = w1 at *
 refine K1.mono ?_
 rintro e w2 ⟨rfl, hb2⟩
 have h2 := h1.up hb2
 have hr2 := hr1.up hb2
 have ha2 := ha.up hb2
 have hB2 := bt hW hb2
 have hlo9 : w.heap.size + 2 ≤ w2.heap.size := hr2.1
 obtain ⟨_, a0, a1, _, _⟩ := id ha2
 clear K1 h1 hr1 ha hW hb2
 go_wp2_with fail
 clear a0 a1
 refine (sCopy_c A P f.length c m d (ints f) yss _ h2 (by omega) (by omega) hfit).mono ?_
 rintro e w3 ⟨A3, n3, c3, P3, m3, d3, rfl, hO3, hb3⟩
 have hbA := below_new w3 (.cells #[.slice A3 n3 c3, .slice P3 m3 d3] 26)
 have h4 := (h2.up hb3).up hbA
 have hr4 := (hr2.up hb3).up hbA
 have ha4 := (ha2.up hb3).up hbA
 have hS4 := Two.made w3 26 (.slice A3 n3 c3) (.slice P3 m3 d3)
 have hO4 := hO3.up hbA
 have hB4 := bt (bt hB2 hb3) hbA
 have hz3 := hb3.size
 clear h2 hr2 ha2 hB2 hb3 hbA hO3
 go_wp2_with fail
 generalize w3.alloc (.cells #[.slice A3 n3 c3, .slice P3 m3 d3] 26) = w4 at *
 refine (KRD w4).mono ?_
 rintro e w5 ⟨rfl, hb5⟩
 have hbA := below_new w5 (.cells #[.int .i64 0, .int .i64 0, .int .i64 0, .string (bl [])] 55)
 have D9 := (h4.up hb5).up hbA
 have R9 := (hr4.up hb5).up hbA
 have T5 := (ha4.up hb5).up hbA
 have S9 := (hS4.up hb5).up hbA
 have O9 := (hO4.up hb5).up hbA
 have B9 := bt (bt hB4 hb5) hbA
 clear h4 hr4 ha4 hS4 hO4 hB4 hb5 hbA
 obtain ⟨a9z, a90, a91, _, _⟩ := id T5
 obtain ⟨s9z, s90, s91, _, _⟩ := id S9
 have hn : pwN f.length f.length ≤ 1000000 := by have := pwN_le h7 h7; omega
 clear KRD
 go_upto_region 36 with fail
 generalize w5.alloc (.cells #[.int .i64 0, .int .i64 0, .int .i64 0, .string (bl [])] 55) = w9 at *
 have KC : Hid (∀ W, Below w9.heap.size w9 W → World.cell? W ⟨w.heap.size, 0, none⟩ = some (.slice A f.length c) ∧ World.cell? W ⟨w.heap.size, 1, none⟩ = some (.slice P m d) ∧ World.cell? W ⟨w3.heap.size, 0, none⟩ = some (.slice A3 n3 c3) ∧ World.cell? W ⟨w3.heap.size, 1, none⟩ = some (.slice P3 m3 d3)) := Lib.hid (fun W h => ⟨(h.cell (p := ⟨w.heap.size, 0, none⟩) a9z).trans a90, (h.cell (p := ⟨w.heap.size, 1, none⟩) a9z).trans a91, (h.cell (p := ⟨w3.heap.size, 0, none⟩) s9z).trans s90, (h.cell (p := ⟨w3.heap.size, 1, none⟩) s9z).trans s91⟩)
 have C0 : Hid (Below w9.heap.size w9 w9.drew) := Lib.hid (bd (Below.refl _ _) 1)
 refine wp_region_held_drew (S := fun W => World.cell? W ⟨w.heap.size, 0, none⟩ = some (.slice A f.length c) ∧ World.cell? W ⟨w.heap.size, 1, none⟩ = some (.slice P m d) ∧ World.cell? W ⟨w3.heap.size, 0, none⟩ = some (.slice A3 n3 c3) ∧ World.cell? W ⟨w3.heap.size, 1, none⟩ = some (.slice P3 m3 d3)) (by kernel_rfl) (KC.out _ C0.out) (fun hHeld => ?_)
 refine wpAnyH_take (i := 0) (v := ?v8_0) rfl (by kernel_rfl) (by kernel_rfl) (by kernel_rfl) (fun _ _ _ h => h) (Or.inl ⟨by rfl, ?hy8_0⟩) hHeld ?_
 case hy8_0 => (intro w hSw; (try dsimp only at hSw); go_simp; first | done | with_reducible rfl)
 simp only [Act.put, List.setIfInBounds_toArray, List.set_cons_zero, List.set_cons_succ, List.getElem_toArray, List.getElem_cons_zero]
 refine wpAnyH_take (i := 1) (v := ?v8_1) rfl (by kernel_rfl) (by kernel_rfl) (by kernel_rfl) (fun _ _ _ h => h) (Or.inl ⟨by rfl, ?hy8_1⟩) hHeld ?_
 case hy8_1 => (intro w hSw; (try dsimp only at hSw); go_simp; first | done | with_reducible rfl)
 simp only [Act.put, List.setIfInBounds_toArray, List.set_cons_zero, List.set_cons_succ, List.getElem_toArray, List.getElem_cons_zero, List.getElem_cons_succ]
 refine wpAnyH_take (i := 2) (v := ?v8_2) rfl (by kernel_rfl) (by kernel_rfl) (by kernel_rfl) (fun _ _ _ h => h) (Or.inl ⟨by rfl, ?hy8_2⟩) hHeld ?_
 case hy8_2 => (intro w hSw; (try dsimp only at hSw); go_simp; first | done | with_reducible rfl)
 simp only [Act.put, List.setIfInBounds_toArray, List.set_cons_zero, List.set_cons_succ, List.getElem_toArray, List.getElem_cons_zero, List.getElem_cons_succ]
 refine wpAnyH_take (i := 3) (v := ?v8_3) rfl (by kernel_rfl) (by kernel_rfl) (by kernel_rfl) (fun _ _ _ h => h) (Or.inl ⟨by rfl, ?hy8_3⟩) hHeld ?_
 case hy8_3 => (intro w hSw; (try dsimp only at hSw); go_simp; first | done | with_reducible rfl)
 simp only [Act.put, List.setIfInBounds_toArray, List.set_cons_zero, List.set_cons_succ, List.getElem_toArray, List.getElem_cons_zero, List.getElem_cons_succ]
 refine wpAnyH_ready (rs := [4]) (by kernel_rfl) (by simp) ?_
 refine AllReadyH.cons rfl (fun K hK => ?_) AllReadyH.nil
 (try simp only [List.getElem_toArray, List.getElem_cons_zero, List.getElem_cons_succ])
 go_simp
 refine (sMapsOf_c f.length _ h1p h7).mono ?_
 rintro e x1 ⟨rfl, hx1⟩
 have C1 := Lib.hid (show Below w9.heap.size w9 x1 from by rw [← hx1]; exact C0.out)
 clear hx1
 go_wp2_with fail
 refine hK.out _ _ (KC.out _ C1.out) (fun hHeld => ?_)
 clear hK K
 (try simp only [Act.put, List.setIfInBounds_toArray, List.set_cons_zero, List.set_cons_succ])
 refine wpAnyH_ready (rs := [5]) (by kernel_rfl) (by simp) ?_
 refine AllReadyH.cons rfl (fun K hK => ?_) AllReadyH.nil
 (try simp only [List.getElem_toArray, List.getElem_cons_zero, List.getElem_cons_succ])
 go_simp
 refine (sNum_c (pwN f.length f.length) _ hn).mono ?_
 rintro e x2 ⟨rfl, hx2⟩
 have C2 := Lib.hid (show Below w9.heap.size w9 x2 from bt C1.out hx2)
 clear hx2
 have R2 := R9.up C2.out
 have hz2 := C2.out.size
 have hr9z := R9.1
 obtain ⟨_, s0, s1, s2, s3⟩ := id R2
 obtain ⟨HE, HT⟩ := line_end (w := w) (decX (pwN f.length f.length)) R2 (O9.up C2.out) hlo9 (by omega) (bt B9 C2.out)
 have HE := Lib.hid HE
 have HT := Lib.hid HT
 have KF : Hid (World.cell? ((x2.setCell ⟨w.heap.size + 1, 0, none⟩ (.slice A3 n3 c3)).setCell ⟨w.heap.size + 1, 1, none⟩ (.slice P3 m3 d3)) ⟨w.heap.size, 0, none⟩ = some (.slice A f.length c) ∧ World.cell? ((x2.setCell ⟨w.heap.size + 1, 0, none⟩ (.slice A3 n3 c3)).setCell ⟨w.heap.size + 1, 1, none⟩ (.slice P3 m3 d3)) ⟨w.heap.size, 1, none⟩ = some (.slice P m d) ∧ World.cell? ((x2.setCell ⟨w.heap.size + 1, 0, none⟩ (.slice A3 n3 c3)).setCell ⟨w.heap.size + 1, 1, none⟩ (.slice P3 m3 d3)) ⟨w3.heap.size, 0, none⟩ = some (.slice A3 n3 c3) ∧ World.cell? ((x2.setCell ⟨w.heap.size + 1, 0, none⟩ (.slice A3 n3 c3)).setCell ⟨w.heap.size + 1, 1, none⟩ (.slice P3 m3 d3)) ⟨w3.heap.size, 1, none⟩ = some (.slice P3 m3 d3)) := Lib.hid ⟨farc (by omega) (KC.out _ C2.out).1, farc (by omega) (KC.out _ C2.out).2.1, farc (by omega) (KC.out _ C2.out).2.2.1, farc (by omega) (KC.out _ C2.out).2.2.2⟩
 clear R2
 go_wp2_with fail
 refine hK.out _ _ (KC.out _ C2.out) (fun hHeld => ?_)
 clear hK K
 (try simp only [Act.put, List.setIfInBounds_toArray, List.set_cons_zero, List.set_cons_succ])
 refine wpAnyH_ready (rs := [6]) (by kernel_rfl) (by simp) ?_
 refine AllReadyH.cons rfl (fun K hK => ?_) AllReadyH.nil
 (try simp only [List.getElem_toArray, List.getElem_cons_zero, List.getElem_cons_succ])
 go_simp
 refine hK.out _ _ (KF.out) (fun hHeld => ?_)
 clear hK K
 (try simp only [Act.put, List.setIfInBounds_toArray, List.set_cons_zero, List.set_cons_succ])
 refine wpAnyH_take (i := 7) (v := ?v8_7) rfl (by kernel_rfl) (by kernel_rfl) (by kernel_rfl) (fun _ _ _ h => h) (Or.inl ⟨by rfl, ?hy8_7⟩) hHeld ?_
 case hy8_7 => (intro w hSw; (try dsimp only at hSw); go_simp; first | done | with_reducible rfl)
 simp only [Act.put, List.setIfInBounds_toArray, List.set_cons_zero, List.set_cons_succ, List.getElem_toArray, List.getElem_cons_zero, List.getElem_cons_succ]
 refine wpAnyH_done (by kernel_rfl) ?_ _
 go_wp2_with fail
 (try simp only [Exit.inBlock, Exit.then])
 refine bodyPost_ret (v := .tuple #[.agg #[.slice A3 n3 c3, .slice P3 m3 d3], .string (decX (pwN f.length f.length))]) ?_ rfl HE.out
 exact Eq.trans (results_two_tmp (p := 4) (u := 5) rfl _ _ (w.heap.size + 1) _ _ _ rfl HT.out Tryz.underlying26 rfl desk_size) rfl
end
section
open Go.RowKit
set_option maxRecDepth 100000 in
set_option maxHeartbeats 3200000 in
theorem sq3_c {f : List Nat} (hf : MapN f) (A P : Option Addr) (c m d : Nat) (yss : List (List Int)) (w : World) (h : RdD w w.heap.size A f.length c (ints f) P m d yss) (hok : deskOkB (ints f) yss = true) :
    Calls Tryz.prog 10 #[.agg #[.slice A f.length c, .slice P m d], .string ⟨#[108, 111, 111, 112, 115]⟩] w (LineO w (ints f) yss (bl (ask f 3))) := by
 have hrd : rdV [108, 111, 111, 112, 115] = ((0, 0, 0, []), false) := by decide
 have KRD : ∀ W, Calls Tryz.prog 48 #[.string ⟨#[108, 111, 111, 112, 115]⟩] W (RdOut (rdV [108, 111, 111, 112, 115]) W) := fun W => sReadDeed_c [108, 111, 111, 112, 115] W (by decide)
 rw [hrd] at KRD
 unfold RdOut at KRD
 simp only at KRD
 clear hrd
 have h7 := hf.le7
 have h1p := hf.pos
 have hfit := (desk_fit hok).2.2
 have hW : Below w.heap.size w ((w.alloc (.cells #[.slice A f.length c, .slice P m d] 26)).alloc (.cells #[.slice none 0 0, .slice none 0 0] 26)) := ((Below.refl _ _).alloc (Nat.le_refl _) _).alloc (by simp) _
 have h1 := h.up hW
 have hr1 := Two.made (w.alloc (.cells #[.slice A f.length c, .slice P m d] 26)) 26 (.slice none 0 0) (.slice none 0 0)
 have ha := (Two.made w 26 (.slice A f.length c) (.slice P m d)).alloc (.cells #[.slice none 0 0, .slice none 0 0] 26)
 simp only [World.size_alloc] at hr1
 have K1 := sDeskOk_c A P f.length c m d (ints f) yss _ h1
 rw [hok] at K1
 go_enter Tryz.func10, Tryz.ntmps10
 go_wp2_with fail
 generalize ((w.alloc (.cells #[.slice A f.length c, .slice P m d] 26)).alloc (.cells #[.slice none 0 0, .slice none 0 0] 26)) = w1 at *
 refine K1.mono ?_
 rintro e w2 ⟨rfl, hb2⟩
 have h2 := h1.up hb2
 have hr2 := hr1.up hb2
 have ha2 := ha.up hb2
 have hB2 := bt hW hb2
 have hlo9 : w.heap.size + 2 ≤ w2.heap.size := hr2.1
 obtain ⟨_, a0, a1, _, _⟩ := id ha2
 clear K1 h1 hr1 ha hW hb2
 go_wp2_with fail
 clear a0 a1
 refine (sCopy_c A P f.length c m d (ints f) yss _ h2 (by omega) (by omega) hfit).mono ?_
 rintro e w3 ⟨A3, n3, c3, P3, m3, d3, rfl, hO3, hb3⟩
 have hbA := below_new w3 (.cells #[.slice A3 n3 c3, .slice P3 m3 d3] 26)
 have h4 := (h2.up hb3).up hbA
 have hr4 := (hr2.up hb3).up hbA
 have ha4 := (ha2.up hb3).up hbA
 have hS4 := Two.made w3 26 (.slice A3 n3 c3) (.slice P3 m3 d3)
 have hO4 := hO3.up hbA
 have hB4 := bt (bt hB2 hb3) hbA
 have hz3 := hb3.size
 clear h2 hr2 ha2 hB2 hb3 hbA hO3
 go_wp2_with fail
 generalize w3.alloc (.cells #[.slice A3 n3 c3, .slice P3 m3 d3] 26) = w4 at *
 refine (KRD w4).mono ?_
 rintro e w5 ⟨rfl, hb5⟩
 have hbA := below_new w5 (.cells #[.int .i64 0, .int .i64 0, .int .i64 0, .string (bl [])] 55)
 have D9 := (h4.up hb5).up hbA
 have R9 := (hr4.up hb5).up hbA
 have T5 := (ha4.up hb5).up hbA
 have S9 := (hS4.up hb5).up hbA
 have O9 := (hO4.up hb5).up hbA
 have B9 := bt (bt hB4 hb5) hbA
 clear h4 hr4 ha4 hS4 hO4 hB4 hb5 hbA
 obtain ⟨a9z, a90, a91, _, _⟩ := id T5
 obtain ⟨s9z, s90, s91, _, _⟩ := id S9
 clear KRD
 have HAT : Hid (∀ m, m < (repsN f f.length).length → ∃ r, (repsN f f.length)[m]? = some r ∧ r < f.length ∧ gR (loopsN f) m = ints (way f r)) := Lib.hid (fun m hm => loops_at hf hm)
 have HD9 : Hid (∀ r, r < f.length → (∀ k, k < (way f r).length → nx (way f r) k ≤ 9) ∧ (way f r).length ≤ 7) := Lib.hid (fun r hr => way_dig hf hr)
 have hll : (loopsN f).length = (repsN f f.length).length := by unfold loopsN; rw [loops_rows, List.length_map]
 have hrl := reps_len f f.length
 have hml : ((repsN f f.length).map (fun r => digT (way f r))).length = (repsN f f.length).length := List.length_map ..
 have HM : Hid (∀ t ∈ (repsN f f.length).map (fun r => digT (way f r)), t.length ≤ 7) := Lib.hid (fun t ht => by
  rw [List.mem_map] at ht
  obtain ⟨x, hx, rfl⟩ := ht
  unfold repsN at hx
  rw [List.mem_filter, List.mem_range] at hx
  rw [digT_len]
  exact (way_dig hf hx.1).2)
 have HG : Hid (∀ m r, (repsN f f.length)[m]? = some r → gX ((repsN f f.length).map (fun r => digT (way f r))) m = digT (way f r)) := Lib.hid (fun m r hr => by unfold gX; simp [List.getD, hr])
 have HA : Hid (ask f 3 = Lib.join ((repsN f f.length).map (fun r => digT (way f r))) [44]) := Lib.hid rfl
 go_wp2_with fail
 generalize w5.alloc (.cells #[.int .i64 0, .int .i64 0, .int .i64 0, .string (bl [])] 55) = w9 at *
 have KL := sLoopsOf_c A f.length c (ints f) w9 D9.1
 unfold Rows at KL
 rw [loopsI_ok hf] at KL
 refine KL.mono ?_
 rintro e x1 ⟨v1, rfl, hO1, hx1⟩
 obtain ⟨A8, c8, rfl, hR8⟩ := hO1.form
 rw [hll] at hR8 ⊢
 generalize (repsN f f.length).map (fun r => digT (way f r)) = ts at *
 generalize loopsN f = rows at *
 generalize repsN f f.length = reps at *
 have hcap8 := hR8.cap
 obtain ⟨N, hN⟩ : ∃ N, reps.length = N := ⟨_, rfl⟩
 rw [hN] at hR8 hcap8 hrl HAT hml ⊢
 have hml7 : ts.length ≤ 7 := by omega
 clear KL hO1 a90 a91 s90 s91
 go_wp2_with fail
 go_loopw [12, 13] (fun o i9 wr => ∃ q : Nat, q ≤ N ∧ i9 = .int .i64 (q : Int) ∧ o = .string (bl (Lib.join (ts.take q) [44])) ∧ Below x1.heap.size x1 wr) (fun _ i9 _ => N - (intOf i9).toNat)
 case atStart => exact ⟨0, Nat.zero_le _, rfl, rfl, Below.refl _ _⟩
 case round =>
  obtain ⟨q, hq, rfl, rfl, hbw⟩ := hrel
  have hz1 : (bl (Lib.join (ts.take q) [44])).size ≤ 7 * 7 + 7 := by
   rw [bl_size]; exact joinC_len (fun t ht => HM.out t (List.mem_of_mem_take ht)) (by rw [List.length_take]; omega)
  by_cases hlt : q < N
  · obtain ⟨r, hr, hrf, hrow⟩ := HAT.out q hlt
    obtain ⟨hd1, hd2⟩ := HD9.out r hrf
    obtain ⟨b, off, A', n', c', hA2, hb, hcell, hRk⟩ := (hR8.up hbw).at_ hlt
    subst hA2
    rw [hrow] at hRk
    obtain rfl : (way f r).length = n' := by rw [← hRk.len, ints_len]
    have K4 := row_c (way f r) hd1 (by omega) A' c' wr hRk
    have hj := joinK (sl := ts) (sep := [44]) (q := q) (by omega)
    rw [HG.out q r hr] at hj
    have hz2 : (bl (digT (way f r))).size ≤ 7 := by rw [bl_size, digT_len]; exact hd2
    have hq0 : (0 : Int) ≤ (q : Int) := Int.natCast_nonneg _
    have hq1 : (q : Int) < (N : Int) := by omega
    by_cases hq9 : q = 0
    · rw [if_pos hq9] at hj
      have hqd : ((0 : Int) < (q : Int)) = False := eq_false (by omega)
      have hqe : (0 < q) = False := eq_false (by omega)
      have HN : Hid (bl (Lib.join (ts.take (q + 1)) [44]) = bl (Lib.join (ts.take q) [44]) ++ bl (digT (way f r))) := Lib.hid (by rw [bl_app, hj, hq9, List.take_zero, Lib.join_nil]; rfl)
      generalize bl (Lib.join (ts.take q) [44]) = X at *
      generalize bl (digT (way f r)) = Y at *
      generalize (way f r).length = n9 at *
      have hna : ¬ (9223372036854775807 < X.size + Y.size) := by omega
      clear hj hq9 hr hrow hd1 HAT HD9 HM HG HA
      go_wp2_with fail
      refine K4.mono ?_
      rintro e w8 ⟨rfl, hb8⟩
      have HB8 := Lib.hid (bt hbw hb8)
      clear K4 hb8 hcell hRk hbw
      go_wp2_with fail
      go_roundw
      case rel => exact ⟨q + 1, by omega, by go_num, by rw [HN.out], HB8.out⟩
      case measure => simp [intOf]; omega
    · rw [if_neg hq9] at hj
      have hqp : (0 : Int) < (q : Int) := by omega
      have HN : Hid (bl (Lib.join (ts.take (q + 1)) [44]) = bl (Lib.join (ts.take q) [44]) ++ ⟨#[44]⟩ ++ bl (digT (way f r))) := Lib.hid (by rw [hj, show (⟨#[44]⟩ : ByteArray) = bl [44] from rfl, bl_app, bl_app])
      generalize bl (Lib.join (ts.take q) [44]) = X at *
      generalize bl (digT (way f r)) = Y at *
      generalize (way f r).length = n9 at *
      have hna : ¬ (9223372036854775807 < X.size + (⟨#[44]⟩ : ByteArray).size) := by rw [show (⟨#[44]⟩ : ByteArray).size = 1 from rfl]; omega
      have hnb : ¬ (9223372036854775807 < (X ++ ⟨#[44]⟩).size + Y.size) := by rw [ByteArray.size_append, show (⟨#[44]⟩ : ByteArray).size = 1 from rfl]; omega
      have hnc : ¬ (9223372036854775807 < X.size + 1 + Y.size) := by omega
      clear hj hr hrow hd1 HAT HD9 HM HG HA
      go_wp2_with fail
      refine K4.mono ?_
      rintro e w8 ⟨rfl, hb8⟩
      have HB8 := Lib.hid (bt hbw hb8)
      clear K4 hb8 hcell hRk hbw
      go_wp2_with fail
      go_roundw
      case rel => exact ⟨q + 1, by omega, by go_num, by rw [HN.out], HB8.out⟩
      case measure => simp [intOf]; omega
  · obtain rfl : q = N := by omega
    rw [List.take_of_length_le (by omega)]
    have hq1 : ¬ (q : Int) < (q : Int) := by omega
    have hbx := bt hx1 hbw
    have HA2 := HA.out
    rw [show Lib.join ts [44] = ask f 3 from HA2.symm]
    generalize hT9 : bl (ask f 3) = T9 at *
    clear HAT HD9 HM HG HA HA2 hR8
    have R2 := R9.up hbx
    have hz2 := (hbx).size
    have hr9z := R9.1
    have s9b := (S9.up hbx)
    obtain ⟨_, s0, s1, s2, s3⟩ := id R2
    obtain ⟨_, g0, g1, _, _⟩ := id s9b
    obtain ⟨HE, HT⟩ := line_end (w := w) (T9) R2 (O9.up hbx) hlo9 (by omega) (bt B9 hbx)
    have HE := Lib.hid HE
    have HT := Lib.hid HT
    clear R2 s9b
    go_wp2_with fail
    (try simp only [Exit.inBlock, Exit.then])
    refine bodyPost_ret (v := .tuple #[.agg #[.slice A3 n3 c3, .slice P3 m3 d3], .string (T9)]) ?_ rfl HE.out
    exact Eq.trans (results_two_tmp (p := 4) (u := 5) rfl _ _ (w.heap.size + 1) _ _ _ rfl HT.out Tryz.underlying26 rfl desk_size) rfl
set_option maxRecDepth 100000 in
set_option maxHeartbeats 3200000 in
theorem sq9_c {f : List Nat} (hf : MapN f) (A P : Option Addr) (c m d : Nat) (yss : List (List Int)) (w : World) (h : RdD w w.heap.size A f.length c (ints f) P m d yss) (hok : deskOkB (ints f) yss = true) :
    Calls Tryz.prog 10 #[.agg #[.slice A f.length c, .slice P m d], .string ⟨#[99, 111, 100, 101]⟩] w (LineO w (ints f) yss (bl (ask f 9))) := by
 have hrd : rdV [99, 111, 100, 101] = ((0, 0, 0, []), false) := by decide
 have KRD : ∀ W, Calls Tryz.prog 48 #[.string ⟨#[99, 111, 100, 101]⟩] W (RdOut (rdV [99, 111, 100, 101]) W) := fun W => sReadDeed_c [99, 111, 100, 101] W (by decide)
 rw [hrd] at KRD
 unfold RdOut at KRD
 simp only at KRD
 clear hrd
 have h7 := hf.le7
 have h1p := hf.pos
 have hfit := (desk_fit hok).2.2
 have hW : Below w.heap.size w ((w.alloc (.cells #[.slice A f.length c, .slice P m d] 26)).alloc (.cells #[.slice none 0 0, .slice none 0 0] 26)) := ((Below.refl _ _).alloc (Nat.le_refl _) _).alloc (by simp) _
 have h1 := h.up hW
 have hr1 := Two.made (w.alloc (.cells #[.slice A f.length c, .slice P m d] 26)) 26 (.slice none 0 0) (.slice none 0 0)
 have ha := (Two.made w 26 (.slice A f.length c) (.slice P m d)).alloc (.cells #[.slice none 0 0, .slice none 0 0] 26)
 simp only [World.size_alloc] at hr1
 have K1 := sDeskOk_c A P f.length c m d (ints f) yss _ h1
 rw [hok] at K1
 go_enter Tryz.func10, Tryz.ntmps10
 go_wp2_with fail
 generalize ((w.alloc (.cells #[.slice A f.length c, .slice P m d] 26)).alloc (.cells #[.slice none 0 0, .slice none 0 0] 26)) = w1 at *
 refine K1.mono ?_
 rintro e w2 ⟨rfl, hb2⟩
 have h2 := h1.up hb2
 have hr2 := hr1.up hb2
 have ha2 := ha.up hb2
 have hB2 := bt hW hb2
 have hlo9 : w.heap.size + 2 ≤ w2.heap.size := hr2.1
 obtain ⟨_, a0, a1, _, _⟩ := id ha2
 clear K1 h1 hr1 ha hW hb2
 go_wp2_with fail
 clear a0 a1
 refine (sCopy_c A P f.length c m d (ints f) yss _ h2 (by omega) (by omega) hfit).mono ?_
 rintro e w3 ⟨A3, n3, c3, P3, m3, d3, rfl, hO3, hb3⟩
 have hbA := below_new w3 (.cells #[.slice A3 n3 c3, .slice P3 m3 d3] 26)
 have h4 := (h2.up hb3).up hbA
 have hr4 := (hr2.up hb3).up hbA
 have ha4 := (ha2.up hb3).up hbA
 have hS4 := Two.made w3 26 (.slice A3 n3 c3) (.slice P3 m3 d3)
 have hO4 := hO3.up hbA
 have hB4 := bt (bt hB2 hb3) hbA
 have hz3 := hb3.size
 clear h2 hr2 ha2 hB2 hb3 hbA hO3
 go_wp2_with fail
 generalize w3.alloc (.cells #[.slice A3 n3 c3, .slice P3 m3 d3] 26) = w4 at *
 refine (KRD w4).mono ?_
 rintro e w5 ⟨rfl, hb5⟩
 have hbA := below_new w5 (.cells #[.int .i64 0, .int .i64 0, .int .i64 0, .string (bl [])] 55)
 have D9 := (h4.up hb5).up hbA
 have R9 := (hr4.up hb5).up hbA
 have T5 := (ha4.up hb5).up hbA
 have S9 := (hS4.up hb5).up hbA
 have O9 := (hO4.up hb5).up hbA
 have B9 := bt (bt hB4 hb5) hbA
 clear h4 hr4 ha4 hS4 hO4 hB4 hb5 hbA
 obtain ⟨a9z, a90, a91, _, _⟩ := id T5
 obtain ⟨s9z, s90, s91, _, _⟩ := id S9
 clear KRD
 have KL := fun W (hW : Rd W W.heap.size A f.length c (ints f)) => sCodeOf_c A f.length c (ints f) W hW
 unfold RowBool at KL
 have HA : Hid (ask f 9 = codeTx f) := Lib.hid rfl
 go_wp2_with fail
 generalize w5.alloc (.cells #[.int .i64 0, .int .i64 0, .int .i64 0, .string (bl [])] 55) = w9 at *
 rcases hs : treeOkI (ints f) with _ | _
 · rw [hs] at KL
   have HC : Hid (bl (ask f 9) = bl [110, 111, 110, 101]) := Lib.hid (by rw [HA.out]; unfold codeTx; rw [hs]; rfl)
   clear hs
   refine (KL w9 D9.1).mono ?_
   rintro e x1 ⟨A8, n8, c8, rfl, hO8, hx1⟩
   clear KL hO8 a90 a91 s90 s91
   have R2 := R9.up hx1
   have hz2 := (hx1).size
   have hr9z := R9.1
   have s9b := (S9.up hx1)
   obtain ⟨_, s0, s1, s2, s3⟩ := id R2
   obtain ⟨_, g0, g1, _, _⟩ := id s9b
   obtain ⟨HE, HT⟩ := line_end (w := w) (bl [110, 111, 110, 101]) R2 (O9.up hx1) hlo9 (by omega) (bt B9 hx1)
   have HE := Lib.hid HE
   have HT := Lib.hid HT
   clear R2 s9b
   go_wp2_with fail
   (try simp only [Exit.inBlock, Exit.then])
   refine bodyPost_ret (v := .tuple #[.agg #[.slice A3 n3 c3, .slice P3 m3 d3], .string (bl [110, 111, 110, 101])]) ?_ rfl (by rw [HC.out]; exact HE.out)
   exact Eq.trans (results_two_tmp (p := 4) (u := 5) rfl _ _ (w.heap.size + 1) _ _ _ rfl HT.out Tryz.underlying26 rfl desk_size) rfl
 · rw [hs] at KL
   obtain ⟨f', hff, hf', h1', h2'⟩ := tree_ex hs
   obtain ⟨c1, hc, hfe, he, hr⟩ := (treeN_of hf' h1' h2').ex
   have hce : codeI (ints f) = ints (codeN f) := codeI_ok hs
   have hcc : codeN f = c1 := by
    have : toN (ints f) = toN (ints f') := by rw [hff]
    rw [toN_ints, toN_ints] at this
    rw [this]; exact he
   have h6 := hc.le6
   have hdg : ∀ k, k < c1.length → nx c1 k ≤ 9 := fun k hk => by
    rw [nx_get hk]
    have := hc.has _ (List.getElem_mem hk)
    omega
   have HC : Hid (bl (ask f 9) = ⟨#[58]⟩ ++ bl (digT c1)) := Lib.hid (by rw [HA.out, show (⟨#[58]⟩ : ByteArray) = bl [58] from rfl, bl_app]; unfold codeTx; rw [hs, hcc]; rfl)
   rw [hce, hcc] at KL
   have HD9 := Lib.hid hdg
   clear hs hdg hce hcc hr he hff hf' h1' h2' hfe
   refine (KL w9 D9.1).mono ?_
   rintro e x9 ⟨A8, n8, c8, rfl, hO8, hx9⟩
   obtain rfl : c1.length = n8 := by rw [← hO8.len, ints_len]
   have hR8 := hO8.rd
   have KW := fun W hW => row_c c1 HD9.out (by omega) A8 c8 W hW
   have hsz : (bl (digT c1)).size ≤ 6 := by rw [bl_size, digT_len]; exact h6
   generalize bl (digT c1) = T at *
   have hna : ¬ (9223372036854775807 < (⟨#[58]⟩ : ByteArray).size + T.size) := by rw [show (⟨#[58]⟩ : ByteArray).size = 1 from rfl]; omega
   have hnb : ¬ (9223372036854775807 < 1 + T.size) := by omega
   generalize c1.length = n9 at *
   clear KL a90 a91 s90 s91 hO8
   have D9 := D9.up_ hx9
   have R9 := R9.up hx9
   have T5 := T5.up hx9
   have S9 := S9.up hx9
   have O9 := O9.up hx9
   have hw9s := hx9.size
   have B9 := bt B9 hx9
   obtain ⟨a9z, a90, a91, _, _⟩ := id T5
   obtain ⟨s9z, s90, s91, _, _⟩ := id S9
   go_upto_region 41 with fail
   clear hx9
   generalize w9 = w9o at *
   generalize x9 = w9 at *
   have KC : Hid (∀ W, Below w9.heap.size w9 W → World.cell? W ⟨w.heap.size, 0, none⟩ = some (.slice A f.length c) ∧ World.cell? W ⟨w.heap.size, 1, none⟩ = some (.slice P m d) ∧ World.cell? W ⟨w3.heap.size, 0, none⟩ = some (.slice A3 n3 c3) ∧ World.cell? W ⟨w3.heap.size, 1, none⟩ = some (.slice P3 m3 d3)) := Lib.hid (fun W h => ⟨(h.cell (p := ⟨w.heap.size, 0, none⟩) a9z).trans a90, (h.cell (p := ⟨w.heap.size, 1, none⟩) a9z).trans a91, (h.cell (p := ⟨w3.heap.size, 0, none⟩) s9z).trans s90, (h.cell (p := ⟨w3.heap.size, 1, none⟩) s9z).trans s91⟩)
   have C0 : Hid (Below w9.heap.size w9 w9.drew) := Lib.hid (bd (Below.refl _ _) 1)
   refine wp_region_held_drew (S := fun W => World.cell? W ⟨w.heap.size, 0, none⟩ = some (.slice A f.length c) ∧ World.cell? W ⟨w.heap.size, 1, none⟩ = some (.slice P m d) ∧ World.cell? W ⟨w3.heap.size, 0, none⟩ = some (.slice A3 n3 c3) ∧ World.cell? W ⟨w3.heap.size, 1, none⟩ = some (.slice P3 m3 d3)) (by kernel_rfl) (KC.out _ C0.out) (fun hHeld => ?_)
   refine wpAnyH_take (i := 0) (v := ?v1_0) rfl (by kernel_rfl) (by kernel_rfl) (by kernel_rfl) (fun _ _ _ h => h) (Or.inl ⟨by rfl, ?hy1_0⟩) hHeld ?_
   case hy1_0 => (intro w hSw; (try dsimp only at hSw); go_simp; first | done | with_reducible rfl)
   simp only [Act.put, List.setIfInBounds_toArray, List.set_cons_zero, List.set_cons_succ, List.getElem_toArray, List.getElem_cons_zero]
   refine wpAnyH_take (i := 1) (v := ?v1_1) rfl (by kernel_rfl) (by kernel_rfl) (by kernel_rfl) (fun _ _ _ h => h) (Or.inl ⟨by rfl, ?hy1_1⟩) hHeld ?_
   case hy1_1 => (intro w hSw; (try dsimp only at hSw); go_simp; first | done | with_reducible rfl)
   simp only [Act.put, List.setIfInBounds_toArray, List.set_cons_zero, List.set_cons_succ, List.getElem_toArray, List.getElem_cons_zero, List.getElem_cons_succ]
   refine wpAnyH_ready (rs := [2]) (by kernel_rfl) (by simp) ?_
   refine AllReadyH.cons rfl (fun K hK => ?_) AllReadyH.nil
   (try simp only [List.getElem_toArray, List.getElem_cons_zero, List.getElem_cons_succ])
   go_simp
   refine (KW _ (hR8.up C0.out)).mono ?_
   rintro e x1 ⟨rfl, hx1⟩
   have C1 := Lib.hid (show Below w9.heap.size w9 x1 from bt C0.out hx1)
   clear hx1
   have R2 := R9.up C1.out
   have hz2 := C1.out.size
   have hr9z := R9.1
   obtain ⟨_, s0, s1, s2, s3⟩ := id R2
   obtain ⟨HE, HT⟩ := line_end (w := w) (⟨#[58]⟩ ++ T) R2 (O9.up C1.out) hlo9 (by omega) (bt B9 C1.out)
   have HE := Lib.hid HE
   have HT := Lib.hid HT
   have KF : Hid (World.cell? ((x1.setCell ⟨w.heap.size + 1, 0, none⟩ (.slice A3 n3 c3)).setCell ⟨w.heap.size + 1, 1, none⟩ (.slice P3 m3 d3)) ⟨w.heap.size, 0, none⟩ = some (.slice A f.length c) ∧ World.cell? ((x1.setCell ⟨w.heap.size + 1, 0, none⟩ (.slice A3 n3 c3)).setCell ⟨w.heap.size + 1, 1, none⟩ (.slice P3 m3 d3)) ⟨w.heap.size, 1, none⟩ = some (.slice P m d) ∧ World.cell? ((x1.setCell ⟨w.heap.size + 1, 0, none⟩ (.slice A3 n3 c3)).setCell ⟨w.heap.size + 1, 1, none⟩ (.slice P3 m3 d3)) ⟨w3.heap.size, 0, none⟩ = some (.slice A3 n3 c3) ∧ World.cell? ((x1.setCell ⟨w.heap.size + 1, 0, none⟩ (.slice A3 n3 c3)).setCell ⟨w.heap.size + 1, 1, none⟩ (.slice P3 m3 d3)) ⟨w3.heap.size, 1, none⟩ = some (.slice P3 m3 d3)) := Lib.hid ⟨farc (by omega) (KC.out _ C1.out).1, farc (by omega) (KC.out _ C1.out).2.1, farc (by omega) (KC.out _ C1.out).2.2.1, farc (by omega) (KC.out _ C1.out).2.2.2⟩
   clear R2
   go_wp2_with fail
   refine hK.out _ _ (KC.out _ C1.out) (fun hHeld => ?_)
   clear hK K
   (try simp only [Act.put, List.setIfInBounds_toArray, List.set_cons_zero, List.set_cons_succ])
   refine wpAnyH_take (i := 3) (v := ?v1_3) rfl (by kernel_rfl) (by kernel_rfl) (by kernel_rfl) (fun _ _ _ h => h) (Or.inl ⟨by rfl, ?hy1_3⟩) hHeld ?_
   case hy1_3 => (intro w hSw; (try dsimp only at hSw); go_simp; first | done | with_reducible rfl)
   simp only [Act.put, List.setIfInBounds_toArray, List.set_cons_zero, List.set_cons_succ, List.getElem_toArray, List.getElem_cons_zero, List.getElem_cons_succ]
   refine wpAnyH_ready (rs := [4]) (by kernel_rfl) (by simp) ?_
   refine AllReadyH.cons rfl (fun K hK => ?_) AllReadyH.nil
   (try simp only [List.getElem_toArray, List.getElem_cons_zero, List.getElem_cons_succ])
   go_simp
   refine hK.out _ _ (KF.out) (fun hHeld => ?_)
   clear hK K
   (try simp only [Act.put, List.setIfInBounds_toArray, List.set_cons_zero, List.set_cons_succ])
   refine wpAnyH_take (i := 5) (v := ?v1_5) rfl (by kernel_rfl) (by kernel_rfl) (by kernel_rfl) (fun _ _ _ h => h) (Or.inl ⟨by rfl, ?hy1_5⟩) hHeld ?_
   case hy1_5 => (intro w hSw; (try dsimp only at hSw); go_simp; first | done | with_reducible rfl)
   simp only [Act.put, List.setIfInBounds_toArray, List.set_cons_zero, List.set_cons_succ, List.getElem_toArray, List.getElem_cons_zero, List.getElem_cons_succ]
   refine wpAnyH_done (by kernel_rfl) ?_ _
   go_wp2_with fail
   (try simp only [Exit.inBlock, Exit.then])
   refine bodyPost_ret (v := .tuple #[.agg #[.slice A3 n3 c3, .slice P3 m3 d3], .string (⟨#[58]⟩ ++ T)]) ?_ rfl (by rw [HC.out]; exact HE.out)
   exact Eq.trans (results_two_tmp (p := 4) (u := 5) rfl _ _ (w.heap.size + 1) _ _ _ rfl HT.out Tryz.underlying26 rfl desk_size) rfl
end
section
open Go.RowKit
def wayS (ws : List (List UInt8)) : Option Nat := match ws with
 | [[119, 97, 121], [d]] => if 48 ≤ d.toNat ∧ d.toNat ≤ 57 then some (d.toNat - 48) else none
 | _ => none
theorem way_spl (l : List UInt8) : wayL l = wayS (spl 32 l) := by
 rcases spl_any 32 l with ⟨hno, hs, _⟩ | ⟨u, v, hu, rfl, hs, _⟩
 · rw [hs]
   have h1 : wayL l = none := by
    unfold wayL
    split
    · simp at hno
    · rfl
   rw [h1]
   unfold wayS
   split
   · rename_i d e
     injection e with _ e
     cases e
   · rfl
 · rw [hs]
   by_cases hw : u = [119, 97, 121]
   · subst hw
     rcases spl_any 32 v with ⟨hno, hs2, _⟩ | ⟨u2, v2, hu2, rfl, hs2, _⟩
     · rw [hs2]
       match v with
       | [] => rfl
       | [d] => rfl
       | d :: d2 :: r => rfl
     · rw [hs2]
       have h2 : wayS ([119, 97, 121] :: u2 :: spl 32 v2) = none := by
        unfold wayS
        split
        · rename_i d e
          injection e with _ e
          injection e with _ e
          have : spl 32 v2 ≠ [] := by
           rcases spl_any 32 v2 with ⟨_, h9, _⟩ | ⟨_, _, _, _, h9, _⟩ <;> rw [h9] <;> simp
          exact absurd e this
        · rfl
       rw [h2]
       match u2 with
       | [] => match v2 with
        | [] => rfl
        | a :: r => rfl
       | [d] => rfl
       | d :: d2 :: r => rfl
   · have h2 : wayS (u :: spl 32 v) = none := by
      unfold wayS
      split
      · rename_i d e
        injection e with e _
        exact absurd e hw
      · rfl
     rw [h2]
     match u, hu, hw with
     | [], _, _ => rfl
     | [a], _, _ => unfold wayL; split <;> simp_all
     | [a, b], _, _ => unfold wayL; split <;> simp_all
     | [a, b, c], _, hw => unfold wayL; split <;> simp_all
     | a :: b :: c :: d :: r, hu, _ => unfold wayL; split <;> simp_all
theorem spl_len_le (c : UInt8) : ∀ l : List UInt8, (spl c l).length ≤ l.length + 1
 | [] => by simp [spl]
 | b :: r => by
  have := spl_len_le c r
  unfold spl
  split
  · simp; omega
  · split
    · simp
    · rename_i e
      rw [e] at this
      simp only [List.length_cons] at this ⊢
      omega
theorem spl_mem_len {c : UInt8} : ∀ {l v : List UInt8}, v ∈ spl c l → v.length ≤ l.length
 | [], v, h => by simp [spl] at h; rw [h]; exact Nat.le_refl _
 | b :: r, v, h => by
  unfold spl at h
  split at h
  · rw [List.mem_cons] at h
    rcases h with rfl | h
    · simp
    · have := spl_mem_len h; simp; omega
  · split at h
    · simp at h; rw [h]; simp
    · rename_i x t e
      rw [List.mem_cons] at h
      rcases h with rfl | h
      · have := spl_mem_len (c := c) (l := r) (v := x) (by rw [e]; simp)
        simp; omega
      · have := spl_mem_len (c := c) (l := r) (v := v) (by rw [e]; simp [h])
        simp; omega
theorem digs_one (d : UInt8) : digs [d] = if 48 ≤ d.toNat ∧ d.toNat ≤ 57 then ((d.toNat - 48 : Nat) : Int) else -1 := by
 have : ∀ n : Fin 256, digs [UInt8.ofNat n.val] = if 48 ≤ (UInt8.ofNat n.val).toNat ∧ (UInt8.ofNat n.val).toNat ≤ 57 then (((UInt8.ofNat n.val).toNat - 48 : Nat) : Int) else -1 := by decide +kernel
 have h := this ⟨d.toNat, UInt8.toNat_lt d⟩
 simpa using h
set_option maxRecDepth 100000 in
set_option maxHeartbeats 3200000 in
theorem sWhat_c {f : List Nat} (hf : MapN f) (A P : Option Addr) (c m d : Nat) (yss : List (List Int)) (s : ByteArray) (w : World) (h : RdD w w.heap.size A f.length c (ints f) P m d yss) (hok : deskOkB (ints f) yss = true) (hs : s.size ≤ 2000000) (hr : rdV s.data.toList = ((0, 0, 0, []), false)) (hq : ∀ k, k < 10 → s.data.toList ≠ qW k) (hway : wayL s.data.toList = none) :
    Calls Tryz.prog 10 #[.agg #[.slice A f.length c, .slice P m d], .string s] w (LineO w (ints f) yss (bl ([119, 104, 97, 116]))) := by
 have KRD := fun W => sReadDeed_c s.data.toList W (by rw [Array.length_toList]; exact hs)
 rw [bl_of, hr] at KRD
 unfold RdOut at KRD
 simp only at KRD
 have hd0 : ¬ s.toList = [109, 97, 112] := by rw [ByteArray.toList_eq]; exact hq 0 (by decide)
 have hc0 : (s.toList == [109, 97, 112]) = false := beqF hd0
 have hd1 : ¬ s.toList = [105, 110, 100, 101, 120] := by rw [ByteArray.toList_eq]; exact hq 1 (by decide)
 have hc1 : (s.toList == [105, 110, 100, 101, 120]) = false := beqF hd1
 have hd2 : ¬ s.toList = [112, 101, 114, 105, 111, 100] := by rw [ByteArray.toList_eq]; exact hq 2 (by decide)
 have hc2 : (s.toList == [112, 101, 114, 105, 111, 100]) = false := beqF hd2
 have hd3 : ¬ s.toList = [108, 111, 111, 112, 115] := by rw [ByteArray.toList_eq]; exact hq 3 (by decide)
 have hc3 : (s.toList == [108, 111, 111, 112, 115]) = false := beqF hd3
 have hd4 : ¬ s.toList = [115, 104, 97, 112, 101] := by rw [ByteArray.toList_eq]; exact hq 4 (by decide)
 have hc4 : (s.toList == [115, 104, 97, 112, 101]) = false := beqF hd4
 have hd5 : ¬ s.toList = [105, 109, 97, 103, 101] := by rw [ByteArray.toList_eq]; exact hq 5 (by decide)
 have hc5 : (s.toList == [105, 109, 97, 103, 101]) = false := beqF hd5
 have hd6 : ¬ s.toList = [103, 97, 114, 100, 101, 110] := by rw [ByteArray.toList_eq]; exact hq 6 (by decide)
 have hc6 : (s.toList == [103, 97, 114, 100, 101, 110]) = false := beqF hd6
 have hd7 : ¬ s.toList = [99, 108, 111, 115, 101, 100] := by rw [ByteArray.toList_eq]; exact hq 7 (by decide)
 have hc7 : (s.toList == [99, 108, 111, 115, 101, 100]) = false := beqF hd7
 have hd8 : ¬ s.toList = [109, 97, 112, 115] := by rw [ByteArray.toList_eq]; exact hq 8 (by decide)
 have hc8 : (s.toList == [109, 97, 112, 115]) = false := beqF hd8
 have hd9 : ¬ s.toList = [99, 111, 100, 101] := by rw [ByteArray.toList_eq]; exact hq 9 (by decide)
 have hc9 : (s.toList == [99, 111, 100, 101]) = false := beqF hd9
 have h7 := hf.le7
 have h1p := hf.pos
 have hfit := (desk_fit hok).2.2
 have hW : Below w.heap.size w ((w.alloc (.cells #[.slice A f.length c, .slice P m d] 26)).alloc (.cells #[.slice none 0 0, .slice none 0 0] 26)) := ((Below.refl _ _).alloc (Nat.le_refl _) _).alloc (by simp) _
 have h1 := h.up hW
 have hr1 := Two.made (w.alloc (.cells #[.slice A f.length c, .slice P m d] 26)) 26 (.slice none 0 0) (.slice none 0 0)
 have ha := (Two.made w 26 (.slice A f.length c) (.slice P m d)).alloc (.cells #[.slice none 0 0, .slice none 0 0] 26)
 simp only [World.size_alloc] at hr1
 have K1 := sDeskOk_c A P f.length c m d (ints f) yss _ h1
 rw [hok] at K1
 go_enter Tryz.func10, Tryz.ntmps10
 go_wp2_with fail
 generalize ((w.alloc (.cells #[.slice A f.length c, .slice P m d] 26)).alloc (.cells #[.slice none 0 0, .slice none 0 0] 26)) = w1 at *
 refine K1.mono ?_
 rintro e w2 ⟨rfl, hb2⟩
 have h2 := h1.up hb2
 have hr2 := hr1.up hb2
 have ha2 := ha.up hb2
 have hB2 := bt hW hb2
 have hlo9 : w.heap.size + 2 ≤ w2.heap.size := hr2.1
 obtain ⟨_, a0, a1, _, _⟩ := id ha2
 clear K1 h1 hr1 ha hW hb2
 go_wp2_with fail
 clear a0 a1
 refine (sCopy_c A P f.length c m d (ints f) yss _ h2 (by omega) (by omega) hfit).mono ?_
 rintro e w3 ⟨A3, n3, c3, P3, m3, d3, rfl, hO3, hb3⟩
 have hbA := below_new w3 (.cells #[.slice A3 n3 c3, .slice P3 m3 d3] 26)
 have h4 := (h2.up hb3).up hbA
 have hr4 := (hr2.up hb3).up hbA
 have ha4 := (ha2.up hb3).up hbA
 have hS4 := Two.made w3 26 (.slice A3 n3 c3) (.slice P3 m3 d3)
 have hO4 := hO3.up hbA
 have hB4 := bt (bt hB2 hb3) hbA
 have hz3 := hb3.size
 clear h2 hr2 ha2 hB2 hb3 hbA hO3
 go_wp2_with fail
 generalize w3.alloc (.cells #[.slice A3 n3 c3, .slice P3 m3 d3] 26) = w4 at *
 refine (KRD w4).mono ?_
 rintro e w5 ⟨rfl, hb5⟩
 have hbA := below_new w5 (.cells #[.int .i64 0, .int .i64 0, .int .i64 0, .string (bl [])] 55)
 have D9 := (h4.up hb5).up hbA
 have R9 := (hr4.up hb5).up hbA
 have T5 := (ha4.up hb5).up hbA
 have S9 := (hS4.up hb5).up hbA
 have O9 := (hO4.up hb5).up hbA
 have B9 := bt (bt hB4 hb5) hbA
 clear h4 hr4 ha4 hS4 hO4 hB4 hb5 hbA
 obtain ⟨a9z, a90, a91, _, _⟩ := id T5
 obtain ⟨s9z, s90, s91, _, _⟩ := id S9
 have KC9 := fun W => l1Cut_c s.data.toList 32 W (by rw [Array.length_toList]; have : s.data.size = s.size := rfl; omega)
 rw [bl_of, show ((32 : UInt8).toNat : Int) = 32 from rfl] at KC9
 go_wp2_with fail
 generalize w5.alloc (.cells #[.int .i64 0, .int .i64 0, .int .i64 0, .string (bl [])] 55) = w9 at *
 refine (KC9 w9).mono ?_
 rintro e x1 ⟨A8, n8, c8, rfl, hR8, hx1⟩
 have hn8 := hR8.len
 rw [List.length_map] at hn8
 have hcap8 := hR8.cap
 have hws : wayS (spl 32 s.data.toList) = none := by rw [← way_spl]; exact hway
 clear KRD KC9 hd0 hc0 hd1 hc1 hd2 hc2 hd3 hc3 hd4 hc4 hd5 hc5 hd6 hc6 hd7 hc7 hd8 hc8 hd9 hc9
 have hsp : (spl 32 s.data.toList).length ≤ 2000001 := by
  have := spl_len_le 32 s.data.toList
  have e : s.data.toList.length = s.size := by rw [Array.length_toList]; rfl
  omega
 have hcl : ∀ v ∈ spl 32 s.data.toList, v.length ≤ 2000000 := fun v hv => by
  have := spl_mem_len hv
  have e : s.data.toList.length = s.size := by rw [Array.length_toList]; rfl
  omega
 clear hq hway
 generalize spl 32 s.data.toList = ws at *
 clear a90 a91 s90 s91
 by_cases h2 : ws.length = 2
 · obtain ⟨u, v, rfl⟩ : ∃ u v, ws = [u, v] := by
    match ws, h2 with
    | [u, v], _ => exact ⟨u, v, rfl⟩
   obtain rfl : 2 = n8 := by rw [← hn8]; rfl
   obtain ⟨b, off, hA, hb, hcell0⟩ := hR8.at_ (show 0 < 2 by omega)
   obtain ⟨b', off', hA', hb', hcell1⟩ := hR8.at_ (show 1 < 2 by omega)
   subst hA
   cases hA'
   rw [Nat.add_zero] at hcell0
   rw [show gT ([u, v].map bl) 0 = bl u from rfl] at hcell0
   rw [show gT ([u, v].map bl) 1 = bl v from rfl] at hcell1
   have hvl := hcl v (by simp)
   by_cases hu : u = [119, 97, 121]
   · subst hu
     have hcell0' : World.cell? x1 ⟨b, off, none⟩ = some (.string ⟨#[119, 97, 121]⟩) := hcell0
     clear hcell0
     by_cases hl : v.length = 1
     · obtain ⟨dd, rfl⟩ := List.length_eq_one_iff.1 hl
       have hdg := digs_one dd
       rw [if_neg (fun h9 => by
        have : wayS [[119, 97, 121], [dd]] = some (dd.toNat - 48) := if_pos h9
        rw [hws] at this; cases this)] at hdg
       have hsz1 : (bl [dd]).size = 1 := rfl
       have KD := fun W => l1Digits_c (bl [dd]) W (by rw [hsz1]; omega)
       rw [bl_list, hdg] at KD
       generalize bl [dd] = X at *
       have hszi : (X.size : Int) = 1 := by rw [hsz1]; rfl
       go_wp2_with fail
       refine (KD _).mono ?_
       rintro e x2 ⟨rfl, rfl⟩
       have R2 := R9.up hx1
       have hz2 := (hx1).size
       have hr9z := R9.1
       have s9b := (S9.up hx1)
       obtain ⟨_, s0, s1, s2, s3⟩ := id R2
       obtain ⟨_, g0, g1, _, _⟩ := id s9b
       obtain ⟨HE, HT⟩ := line_end (w := w) (bl [119, 104, 97, 116]) R2 (O9.up hx1) hlo9 (by omega) (bt B9 hx1)
       have HE := Lib.hid HE
       have HT := Lib.hid HT
       clear R2 s9b
       go_wp2_with fail
       (try simp only [Exit.inBlock, Exit.then])
       refine bodyPost_ret (v := .tuple #[.agg #[.slice A3 n3 c3, .slice P3 m3 d3], .string (bl [119, 104, 97, 116])]) ?_ rfl HE.out
       exact Eq.trans (results_two_tmp (p := 4) (u := 5) rfl _ _ (w.heap.size + 1) _ _ _ rfl HT.out Tryz.underlying26 rfl desk_size) rfl
     · have hli : ¬ ((bl v).size : Int) = 1 := by rw [bl_size]; omega
       have hlb : (((bl v).size : Int) == 1) = false := by rw [beq_eq_false_iff_ne]; exact hli
       have hlc : (((bl v).size : Int) != 1) = true := by rw [bne, hlb]; rfl
       generalize bl v = X at *
       have R2 := R9.up hx1
       have hz2 := (hx1).size
       have hr9z := R9.1
       have s9b := (S9.up hx1)
       obtain ⟨_, s0, s1, s2, s3⟩ := id R2
       obtain ⟨_, g0, g1, _, _⟩ := id s9b
       obtain ⟨HE, HT⟩ := line_end (w := w) (bl [119, 104, 97, 116]) R2 (O9.up hx1) hlo9 (by omega) (bt B9 hx1)
       have HE := Lib.hid HE
       have HT := Lib.hid HT
       clear R2 s9b
       go_wp2_with fail
       (try simp only [Exit.inBlock, Exit.then])
       refine bodyPost_ret (v := .tuple #[.agg #[.slice A3 n3 c3, .slice P3 m3 d3], .string (bl [119, 104, 97, 116])]) ?_ rfl HE.out
       exact Eq.trans (results_two_tmp (p := 4) (u := 5) rfl _ _ (w.heap.size + 1) _ _ _ rfl HT.out Tryz.underlying26 rfl desk_size) rfl
   · have hu1 : ¬ (bl u).toList = [119, 97, 121] := by rw [bl_toList]; exact hu
     have hu2 : ((bl u).toList == [119, 97, 121]) = false := beqF hu1
     have hu3 : ((bl u).toList != [119, 97, 121]) = true := by rw [bne, hu2]; rfl
     generalize bl u = X at *
     have R2 := R9.up hx1
     have hz2 := (hx1).size
     have hr9z := R9.1
     have s9b := (S9.up hx1)
     obtain ⟨_, s0, s1, s2, s3⟩ := id R2
     obtain ⟨_, g0, g1, _, _⟩ := id s9b
     obtain ⟨HE, HT⟩ := line_end (w := w) (bl [119, 104, 97, 116]) R2 (O9.up hx1) hlo9 (by omega) (bt B9 hx1)
     have HE := Lib.hid HE
     have HT := Lib.hid HT
     clear R2 s9b
     go_wp2_with fail
     (try simp only [Exit.inBlock, Exit.then])
     refine bodyPost_ret (v := .tuple #[.agg #[.slice A3 n3 c3, .slice P3 m3 d3], .string (bl [119, 104, 97, 116])]) ?_ rfl HE.out
     exact Eq.trans (results_two_tmp (p := 4) (u := 5) rfl _ _ (w.heap.size + 1) _ _ _ rfl HT.out Tryz.underlying26 rfl desk_size) rfl
 · have h2i : ¬ (n8 : Int) = 2 := by omega
   have h2b : ((n8 : Int) == 2) = false := by rw [beq_eq_false_iff_ne]; exact h2i
   have h2c : ((n8 : Int) != 2) = true := by rw [bne, h2b]; rfl
   clear hR8 hcl hws
   have R2 := R9.up hx1
   have hz2 := (hx1).size
   have hr9z := R9.1
   have s9b := (S9.up hx1)
   obtain ⟨_, s0, s1, s2, s3⟩ := id R2
   obtain ⟨_, g0, g1, _, _⟩ := id s9b
   obtain ⟨HE, HT⟩ := line_end (w := w) (bl [119, 104, 97, 116]) R2 (O9.up hx1) hlo9 (by omega) (bt B9 hx1)
   have HE := Lib.hid HE
   have HT := Lib.hid HT
   clear R2 s9b
   go_wp2_with fail
   (try simp only [Exit.inBlock, Exit.then])
   refine bodyPost_ret (v := .tuple #[.agg #[.slice A3 n3 c3, .slice P3 m3 d3], .string (bl [119, 104, 97, 116])]) ?_ rfl HE.out
   exact Eq.trans (results_two_tmp (p := 4) (u := 5) rfl _ _ (w.heap.size + 1) _ _ _ rfl HT.out Tryz.underlying26 rfl desk_size) rfl
set_option maxRecDepth 100000 in
set_option maxHeartbeats 3200000 in
theorem sWay_c {f : List Nat} (hf : MapN f) (A P : Option Addr) (c m d : Nat) (yss : List (List Int)) (s : ByteArray) (w : World) (h : RdD w w.heap.size A f.length c (ints f) P m d yss) (hok : deskOkB (ints f) yss = true) (hs : s.size ≤ 2000000) (hr : rdV s.data.toList = ((0, 0, 0, []), false)) (hq : ∀ k, k < 10 → s.data.toList ≠ qW k) (t : Nat) (hway : wayL s.data.toList = some t) :
    Calls Tryz.prog 10 #[.agg #[.slice A f.length c, .slice P m d], .string s] w (LineO w (ints f) yss (bl (wayT f t))) := by
 have KRD := fun W => sReadDeed_c s.data.toList W (by rw [Array.length_toList]; exact hs)
 rw [bl_of, hr] at KRD
 unfold RdOut at KRD
 simp only at KRD
 have hd0 : ¬ s.toList = [109, 97, 112] := by rw [ByteArray.toList_eq]; exact hq 0 (by decide)
 have hc0 : (s.toList == [109, 97, 112]) = false := beqF hd0
 have hd1 : ¬ s.toList = [105, 110, 100, 101, 120] := by rw [ByteArray.toList_eq]; exact hq 1 (by decide)
 have hc1 : (s.toList == [105, 110, 100, 101, 120]) = false := beqF hd1
 have hd2 : ¬ s.toList = [112, 101, 114, 105, 111, 100] := by rw [ByteArray.toList_eq]; exact hq 2 (by decide)
 have hc2 : (s.toList == [112, 101, 114, 105, 111, 100]) = false := beqF hd2
 have hd3 : ¬ s.toList = [108, 111, 111, 112, 115] := by rw [ByteArray.toList_eq]; exact hq 3 (by decide)
 have hc3 : (s.toList == [108, 111, 111, 112, 115]) = false := beqF hd3
 have hd4 : ¬ s.toList = [115, 104, 97, 112, 101] := by rw [ByteArray.toList_eq]; exact hq 4 (by decide)
 have hc4 : (s.toList == [115, 104, 97, 112, 101]) = false := beqF hd4
 have hd5 : ¬ s.toList = [105, 109, 97, 103, 101] := by rw [ByteArray.toList_eq]; exact hq 5 (by decide)
 have hc5 : (s.toList == [105, 109, 97, 103, 101]) = false := beqF hd5
 have hd6 : ¬ s.toList = [103, 97, 114, 100, 101, 110] := by rw [ByteArray.toList_eq]; exact hq 6 (by decide)
 have hc6 : (s.toList == [103, 97, 114, 100, 101, 110]) = false := beqF hd6
 have hd7 : ¬ s.toList = [99, 108, 111, 115, 101, 100] := by rw [ByteArray.toList_eq]; exact hq 7 (by decide)
 have hc7 : (s.toList == [99, 108, 111, 115, 101, 100]) = false := beqF hd7
 have hd8 : ¬ s.toList = [109, 97, 112, 115] := by rw [ByteArray.toList_eq]; exact hq 8 (by decide)
 have hc8 : (s.toList == [109, 97, 112, 115]) = false := beqF hd8
 have hd9 : ¬ s.toList = [99, 111, 100, 101] := by rw [ByteArray.toList_eq]; exact hq 9 (by decide)
 have hc9 : (s.toList == [99, 111, 100, 101]) = false := beqF hd9
 have h7 := hf.le7
 have h1p := hf.pos
 have hfit := (desk_fit hok).2.2
 have hW : Below w.heap.size w ((w.alloc (.cells #[.slice A f.length c, .slice P m d] 26)).alloc (.cells #[.slice none 0 0, .slice none 0 0] 26)) := ((Below.refl _ _).alloc (Nat.le_refl _) _).alloc (by simp) _
 have h1 := h.up hW
 have hr1 := Two.made (w.alloc (.cells #[.slice A f.length c, .slice P m d] 26)) 26 (.slice none 0 0) (.slice none 0 0)
 have ha := (Two.made w 26 (.slice A f.length c) (.slice P m d)).alloc (.cells #[.slice none 0 0, .slice none 0 0] 26)
 simp only [World.size_alloc] at hr1
 have K1 := sDeskOk_c A P f.length c m d (ints f) yss _ h1
 rw [hok] at K1
 go_enter Tryz.func10, Tryz.ntmps10
 go_wp2_with fail
 generalize ((w.alloc (.cells #[.slice A f.length c, .slice P m d] 26)).alloc (.cells #[.slice none 0 0, .slice none 0 0] 26)) = w1 at *
 refine K1.mono ?_
 rintro e w2 ⟨rfl, hb2⟩
 have h2 := h1.up hb2
 have hr2 := hr1.up hb2
 have ha2 := ha.up hb2
 have hB2 := bt hW hb2
 have hlo9 : w.heap.size + 2 ≤ w2.heap.size := hr2.1
 obtain ⟨_, a0, a1, _, _⟩ := id ha2
 clear K1 h1 hr1 ha hW hb2
 go_wp2_with fail
 clear a0 a1
 refine (sCopy_c A P f.length c m d (ints f) yss _ h2 (by omega) (by omega) hfit).mono ?_
 rintro e w3 ⟨A3, n3, c3, P3, m3, d3, rfl, hO3, hb3⟩
 have hbA := below_new w3 (.cells #[.slice A3 n3 c3, .slice P3 m3 d3] 26)
 have h4 := (h2.up hb3).up hbA
 have hr4 := (hr2.up hb3).up hbA
 have ha4 := (ha2.up hb3).up hbA
 have hS4 := Two.made w3 26 (.slice A3 n3 c3) (.slice P3 m3 d3)
 have hO4 := hO3.up hbA
 have hB4 := bt (bt hB2 hb3) hbA
 have hz3 := hb3.size
 clear h2 hr2 ha2 hB2 hb3 hbA hO3
 go_wp2_with fail
 generalize w3.alloc (.cells #[.slice A3 n3 c3, .slice P3 m3 d3] 26) = w4 at *
 refine (KRD w4).mono ?_
 rintro e w5 ⟨rfl, hb5⟩
 have hbA := below_new w5 (.cells #[.int .i64 0, .int .i64 0, .int .i64 0, .string (bl [])] 55)
 have D9 := (h4.up hb5).up hbA
 have R9 := (hr4.up hb5).up hbA
 have T5 := (ha4.up hb5).up hbA
 have S9 := (hS4.up hb5).up hbA
 have O9 := (hO4.up hb5).up hbA
 have B9 := bt (bt hB4 hb5) hbA
 clear h4 hr4 ha4 hS4 hO4 hB4 hb5 hbA
 obtain ⟨a9z, a90, a91, _, _⟩ := id T5
 obtain ⟨s9z, s90, s91, _, _⟩ := id S9
 have KC9 := fun W => l1Cut_c s.data.toList 32 W (by rw [Array.length_toList]; have : s.data.size = s.size := rfl; omega)
 rw [bl_of, show ((32 : UInt8).toNat : Int) = 32 from rfl] at KC9
 go_wp2_with fail
 generalize w5.alloc (.cells #[.int .i64 0, .int .i64 0, .int .i64 0, .string (bl [])] 55) = w9 at *
 refine (KC9 w9).mono ?_
 rintro e x1 ⟨A8, n8, c8, rfl, hR8, hx1⟩
 have hn8 := hR8.len
 rw [List.length_map] at hn8
 have hcap8 := hR8.cap
 have hws : wayS (spl 32 s.data.toList) = some t := by rw [← way_spl]; exact hway
 clear KRD KC9 hd0 hc0 hd1 hc1 hd2 hc2 hd3 hc3 hd4 hc4 hd5 hc5 hd6 hc6 hd7 hc7 hd8 hc8 hd9 hc9
 obtain ⟨dd, hsp, h48⟩ : ∃ dd : UInt8, spl 32 s.data.toList = [[119, 97, 121], [dd]] ∧ 48 ≤ dd.toNat ∧ dd.toNat ≤ 57 ∧ dd.toNat - 48 = t := by
  unfold wayS at hws
  split at hws
  · rename_i dd e
    split at hws
    · rename_i h9
      cases hws
      exact ⟨dd, e, h9.1, h9.2, rfl⟩
    · cases hws
  · cases hws
 have hdg := digs_one dd
 rw [if_pos ⟨h48.1, h48.2.1⟩, h48.2.2] at hdg
 have hsz1 : (bl [dd]).size = 1 := rfl
 have KD := fun W => l1Digits_c (bl [dd]) W (by rw [hsz1]; omega)
 rw [bl_list, hdg] at KD
 rw [hsp] at hR8 hn8
 obtain rfl : 2 = n8 := by rw [← hn8]; rfl
 obtain ⟨b, off, hA, hb, hcell0⟩ := hR8.at_ (show 0 < 2 by omega)
 obtain ⟨b', off', hA', hb', hcell1⟩ := hR8.at_ (show 1 < 2 by omega)
 subst hA
 cases hA'
 rw [Nat.add_zero] at hcell0
 rw [show gT (([[119, 97, 121], [dd]] : List (List UInt8)).map bl) 0 = ⟨#[119, 97, 121]⟩ from rfl] at hcell0
 rw [show gT (([[119, 97, 121], [dd]] : List (List UInt8)).map bl) 1 = bl [dd] from rfl] at hcell1
 generalize bl [dd] = X at *
 have hszi : (X.size : Int) = 1 := by rw [hsz1]; rfl
 have KW := fun W (hW : Rd W W.heap.size A f.length c (ints f)) => sWayFrom_c A f.length c (ints f) (t : Int) W hW
 unfold Way at KW
 clear hq hws hsp hway hdg h48 hn8 hR8
 clear a90 a91 s90 s91
 have hti : ¬ (t : Int) < 0 := by omega
 go_wp2_with fail
 refine (KD _).mono ?_
 rintro e x2 ⟨rfl, rfl⟩
 have D9 := D9.up_ hx1
 have R9 := R9.up hx1
 have T5 := T5.up hx1
 have S9 := S9.up hx1
 have O9 := O9.up hx1
 have hw9s := hx1.size
 have B9 := bt B9 hx1
 obtain ⟨a9z, a90, a91, _, _⟩ := id T5
 obtain ⟨s9z, s90, s91, _, _⟩ := id S9
 have hcb : b < x1.heap.size := hb
 clear hx1
 go_upto_region 45 with fail
 generalize w9 = w9o at *
 generalize x1 = w9 at *
 have KC2 : Hid (∀ W, Below w9.heap.size w9 W → World.cell? W ⟨w.heap.size, 0, none⟩ = some (.slice A f.length c) ∧ World.cell? W ⟨b, off + 1, none⟩ = some (.string X)) := Lib.hid (fun W h => ⟨(h.cell (p := ⟨w.heap.size, 0, none⟩) a9z).trans a90, (h.cell (p := ⟨b, off + 1, none⟩) hcb).trans hcell1⟩)
 have C0 : Hid (Below w9.heap.size w9 w9.drew) := Lib.hid (bd (Below.refl _ _) 1)
 refine wp_region_held_drew (S := fun W => World.cell? W ⟨w.heap.size, 0, none⟩ = some (.slice A f.length c) ∧ World.cell? W ⟨b, off + 1, none⟩ = some (.string X)) (by kernel_rfl) (KC2.out _ C0.out) (fun hHeld => ?_)
 refine wpAnyH_take (i := 0) (v := ?v2_0) rfl (by kernel_rfl) (by kernel_rfl) (by kernel_rfl) (fun _ _ _ h => h) (Or.inl ⟨by rfl, ?hy2_0⟩) hHeld ?_
 case hy2_0 => (intro w hSw; (try dsimp only at hSw); go_simp; first | done | with_reducible rfl)
 simp only [Act.put, List.setIfInBounds_toArray, List.set_cons_zero, List.set_cons_succ, List.getElem_toArray, List.getElem_cons_zero]
 refine wpAnyH_take (i := 1) (v := ?v2_1) rfl (by kernel_rfl) (by kernel_rfl) (by kernel_rfl) (fun _ _ _ h => h) (Or.inl ⟨by rfl, ?hy2_1⟩) hHeld ?_
 case hy2_1 => (intro w hSw; (try dsimp only at hSw); go_simp; first | done | with_reducible rfl)
 simp only [Act.put, List.setIfInBounds_toArray, List.set_cons_zero, List.set_cons_succ, List.getElem_toArray, List.getElem_cons_zero, List.getElem_cons_succ]
 refine wpAnyH_take (i := 2) (v := ?v2_2) rfl (by kernel_rfl) (by kernel_rfl) (by kernel_rfl) (fun _ _ _ h => h) (Or.inl ⟨by rfl, ?hy2_2⟩) hHeld ?_
 case hy2_2 => (intro w hSw; (try dsimp only at hSw); go_simp; first | done | with_reducible rfl)
 simp only [Act.put, List.setIfInBounds_toArray, List.set_cons_zero, List.set_cons_succ, List.getElem_toArray, List.getElem_cons_zero, List.getElem_cons_succ]
 refine wpAnyH_take (i := 3) (v := ?v2_3) rfl (by kernel_rfl) (by kernel_rfl) (by kernel_rfl) (fun _ _ _ h => h) (Or.inl ⟨by rfl, ?hy2_3⟩) hHeld ?_
 case hy2_3 => (intro w hSw; (try dsimp only at hSw); go_simp; first | done | with_reducible rfl)
 simp only [Act.put, List.setIfInBounds_toArray, List.set_cons_zero, List.set_cons_succ, List.getElem_toArray, List.getElem_cons_zero, List.getElem_cons_succ]
 refine wpAnyH_take (i := 4) (v := ?v2_4) rfl (by kernel_rfl) (by kernel_rfl) (by kernel_rfl) (fun _ _ _ h => h) (Or.inl ⟨by rfl, ?hy2_4⟩) hHeld ?_
 case hy2_4 => (intro w hSw; (try dsimp only at hSw); go_simp; first | done | with_reducible rfl)
 simp only [Act.put, List.setIfInBounds_toArray, List.set_cons_zero, List.set_cons_succ, List.getElem_toArray, List.getElem_cons_zero, List.getElem_cons_succ]
 refine wpAnyH_ready (rs := [5]) (by kernel_rfl) (by simp) ?_
 refine AllReadyH.cons rfl (fun K hK => ?_) AllReadyH.nil
 (try simp only [List.getElem_toArray, List.getElem_cons_zero, List.getElem_cons_succ])
 go_simp
 refine (KD _).mono ?_
 rintro e x1 ⟨rfl, hx1⟩
 have C1 := Lib.hid (show Below w9.heap.size w9 x1 from by rw [← hx1]; exact C0.out)
 clear hx1
 go_wp2_with fail
 refine hK.out _ _ (KC2.out _ C1.out) (fun hHeld => ?_)
 clear hK K
 (try simp only [Act.put, List.setIfInBounds_toArray, List.set_cons_zero, List.set_cons_succ])
 refine wpAnyH_ready (rs := [6]) (by kernel_rfl) (by simp) ?_
 refine AllReadyH.cons rfl (fun K hK => ?_) AllReadyH.nil
 (try simp only [List.getElem_toArray, List.getElem_cons_zero, List.getElem_cons_succ])
 go_simp
 refine (KW _ (D9.1.up C1.out)).mono ?_
 rintro e x2 ⟨v2, rfl, hO2, hx2⟩
 have C2 := Lib.hid (show Below w9.heap.size w9 x2 from bt C1.out hx2)
 have HO2 := Lib.hid hO2
 clear hx2 hO2
 go_wp2_with fail
 refine hK.out _ _ (KC2.out _ C2.out) (fun hHeld => ?_)
 clear hK K
 (try simp only [Act.put, List.setIfInBounds_toArray, List.set_cons_zero, List.set_cons_succ])
 refine wpAnyH_take (i := 7) (v := ?v2_7) rfl (by kernel_rfl) (by kernel_rfl) (by kernel_rfl) (fun _ _ _ h => h) (Or.inl ⟨by rfl, ?hy2_7⟩) hHeld ?_
 case hy2_7 => (intro w hSw; (try dsimp only at hSw); go_simp; first | done | with_reducible rfl)
 simp only [Act.put, List.setIfInBounds_toArray, List.set_cons_zero, List.set_cons_succ, List.getElem_toArray, List.getElem_cons_zero, List.getElem_cons_succ]
 refine wpAnyH_done (by kernel_rfl) ?_ _
 clear KC2 hHeld
 have hO2 := HO2.out
 have hx2 := C2.out
 clear C0 C1 C2 HO2 KD KW hcell0 hcell1 a90 a91 s90 s91
 by_cases ht : t < f.length
 · rw [wayI_ok hf ht] at hO2
   obtain ⟨hd1, hd2⟩ := way_dig hf ht
   have hwp : 1 ≤ (way f t).length := by rw [way, orb_len]; exact (wl_isWay hf ht).pos
   obtain ⟨A7, c7, rfl, hO7⟩ := hO2.form
   rw [ints_len] at hO7 ⊢
   have hR7 := hO7.rd
   have HW : Hid (bl (wayT f t) = bl (digT (way f t))) := Lib.hid (by unfold wayT; rw [if_pos ht])
   have KR := fun W hW => row_c (way f t) hd1 (by omega) A7 c7 W hW
   generalize bl (digT (way f t)) = T at *
   generalize (way f t).length = n9 at *
   have hn0 : ¬ (n9 : Int) = 0 := by omega
   have hn0b : ((n9 : Int) == 0) = false := by rw [beq_eq_false_iff_ne]; exact hn0
   have D9 := D9.up_ hx2
   have R9 := R9.up hx2
   have T5 := T5.up hx2
   have S9 := S9.up hx2
   have O9 := O9.up hx2
   have hw9t := hx2.size
   have B9 := bt B9 hx2
   obtain ⟨a9z, a90, a91, _, _⟩ := id T5
   obtain ⟨s9z, s90, s91, _, _⟩ := id S9
   clear hx2 hO2 hO7
   go_upto_region 48 with fail
   generalize w9 = w9p at *
   generalize x2 = w9 at *
   have KC : Hid (∀ W, Below w9.heap.size w9 W → World.cell? W ⟨w.heap.size, 0, none⟩ = some (.slice A f.length c) ∧ World.cell? W ⟨w.heap.size, 1, none⟩ = some (.slice P m d) ∧ World.cell? W ⟨w3.heap.size, 0, none⟩ = some (.slice A3 n3 c3) ∧ World.cell? W ⟨w3.heap.size, 1, none⟩ = some (.slice P3 m3 d3)) := Lib.hid (fun W h => ⟨(h.cell (p := ⟨w.heap.size, 0, none⟩) a9z).trans a90, (h.cell (p := ⟨w.heap.size, 1, none⟩) a9z).trans a91, (h.cell (p := ⟨w3.heap.size, 0, none⟩) s9z).trans s90, (h.cell (p := ⟨w3.heap.size, 1, none⟩) s9z).trans s91⟩)
   have C0 : Hid (Below w9.heap.size w9 w9.drew) := Lib.hid (bd (Below.refl _ _) 1)
   refine wp_region_held_drew (S := fun W => World.cell? W ⟨w.heap.size, 0, none⟩ = some (.slice A f.length c) ∧ World.cell? W ⟨w.heap.size, 1, none⟩ = some (.slice P m d) ∧ World.cell? W ⟨w3.heap.size, 0, none⟩ = some (.slice A3 n3 c3) ∧ World.cell? W ⟨w3.heap.size, 1, none⟩ = some (.slice P3 m3 d3)) (by kernel_rfl) (KC.out _ C0.out) (fun hHeld => ?_)
   refine wpAnyH_take (i := 0) (v := ?v3_0) rfl (by kernel_rfl) (by kernel_rfl) (by kernel_rfl) (fun _ _ _ h => h) (Or.inl ⟨by rfl, ?hy3_0⟩) hHeld ?_
   case hy3_0 => (intro w hSw; (try dsimp only at hSw); go_simp; first | done | with_reducible rfl)
   simp only [Act.put, List.setIfInBounds_toArray, List.set_cons_zero, List.set_cons_succ, List.getElem_toArray, List.getElem_cons_zero]
   refine wpAnyH_take (i := 1) (v := ?v3_1) rfl (by kernel_rfl) (by kernel_rfl) (by kernel_rfl) (fun _ _ _ h => h) (Or.inl ⟨by rfl, ?hy3_1⟩) hHeld ?_
   case hy3_1 => (intro w hSw; (try dsimp only at hSw); go_simp; first | done | with_reducible rfl)
   simp only [Act.put, List.setIfInBounds_toArray, List.set_cons_zero, List.set_cons_succ, List.getElem_toArray, List.getElem_cons_zero, List.getElem_cons_succ]
   refine wpAnyH_ready (rs := [2]) (by kernel_rfl) (by simp) ?_
   refine AllReadyH.cons rfl (fun K hK => ?_) AllReadyH.nil
   (try simp only [List.getElem_toArray, List.getElem_cons_zero, List.getElem_cons_succ])
   go_simp
   refine (KR _ (hR7.up C0.out)).mono ?_
   rintro e x1 ⟨rfl, hx1⟩
   have C1 := Lib.hid (show Below w9.heap.size w9 x1 from bt C0.out hx1)
   clear hx1
   have R2 := R9.up C1.out
   have hz2 := C1.out.size
   have hr9z := R9.1
   obtain ⟨_, s0, s1, s2, s3⟩ := id R2
   obtain ⟨HE, HT⟩ := line_end (w := w) (T) R2 (O9.up C1.out) hlo9 (by omega) (bt B9 C1.out)
   have HE := Lib.hid HE
   have HT := Lib.hid HT
   have KF : Hid (World.cell? ((x1.setCell ⟨w.heap.size + 1, 0, none⟩ (.slice A3 n3 c3)).setCell ⟨w.heap.size + 1, 1, none⟩ (.slice P3 m3 d3)) ⟨w.heap.size, 0, none⟩ = some (.slice A f.length c) ∧ World.cell? ((x1.setCell ⟨w.heap.size + 1, 0, none⟩ (.slice A3 n3 c3)).setCell ⟨w.heap.size + 1, 1, none⟩ (.slice P3 m3 d3)) ⟨w.heap.size, 1, none⟩ = some (.slice P m d) ∧ World.cell? ((x1.setCell ⟨w.heap.size + 1, 0, none⟩ (.slice A3 n3 c3)).setCell ⟨w.heap.size + 1, 1, none⟩ (.slice P3 m3 d3)) ⟨w3.heap.size, 0, none⟩ = some (.slice A3 n3 c3) ∧ World.cell? ((x1.setCell ⟨w.heap.size + 1, 0, none⟩ (.slice A3 n3 c3)).setCell ⟨w.heap.size + 1, 1, none⟩ (.slice P3 m3 d3)) ⟨w3.heap.size, 1, none⟩ = some (.slice P3 m3 d3)) := Lib.hid ⟨farc (by omega) (KC.out _ C1.out).1, farc (by omega) (KC.out _ C1.out).2.1, farc (by omega) (KC.out _ C1.out).2.2.1, farc (by omega) (KC.out _ C1.out).2.2.2⟩
   clear R2
   go_wp2_with fail
   refine hK.out _ _ (KC.out _ C1.out) (fun hHeld => ?_)
   clear hK K
   (try simp only [Act.put, List.setIfInBounds_toArray, List.set_cons_zero, List.set_cons_succ])
   refine wpAnyH_ready (rs := [3]) (by kernel_rfl) (by simp) ?_
   refine AllReadyH.cons rfl (fun K hK => ?_) AllReadyH.nil
   (try simp only [List.getElem_toArray, List.getElem_cons_zero, List.getElem_cons_succ])
   go_simp
   refine hK.out _ _ (KF.out) (fun hHeld => ?_)
   clear hK K
   (try simp only [Act.put, List.setIfInBounds_toArray, List.set_cons_zero, List.set_cons_succ])
   refine wpAnyH_take (i := 4) (v := ?v3_4) rfl (by kernel_rfl) (by kernel_rfl) (by kernel_rfl) (fun _ _ _ h => h) (Or.inl ⟨by rfl, ?hy3_4⟩) hHeld ?_
   case hy3_4 => (intro w hSw; (try dsimp only at hSw); go_simp; first | done | with_reducible rfl)
   simp only [Act.put, List.setIfInBounds_toArray, List.set_cons_zero, List.set_cons_succ, List.getElem_toArray, List.getElem_cons_zero, List.getElem_cons_succ]
   refine wpAnyH_done (by kernel_rfl) ?_ _
   go_wp2_with fail
   (try simp only [Exit.inBlock, Exit.then])
   refine bodyPost_ret (v := .tuple #[.agg #[.slice A3 n3 c3, .slice P3 m3 d3], .string (T)]) ?_ rfl (by rw [HW.out]; exact HE.out)
   exact Eq.trans (results_two_tmp (p := 4) (u := 5) rfl _ _ (w.heap.size + 1) _ _ _ rfl HT.out Tryz.underlying26 rfl desk_size) rfl
 · have ha : atOk (ints f) (t : Int) = false := by
    rcases e : atOk (ints f) (t : Int) with _ | _
    · rfl
    · obtain ⟨f', k, e1, e2, _, hk⟩ := atOk_ex e
      exfalso
      have h1 : f.length = f'.length := by rw [← ints_len f, e1, ints_len]
      omega
   rw [wayI_no ha] at hO2
   obtain ⟨A7, c7, rfl, hO7⟩ := hO2.form
   have HW : Hid (bl (wayT f t) = bl [110, 111, 110, 101]) := Lib.hid (by unfold wayT; rw [if_neg ht]; rfl)
   clear ha hO2 hO7
   have R2 := R9.up hx2
   have hz2 := (hx2).size
   have hr9z := R9.1
   have s9b := (S9.up hx2)
   obtain ⟨_, s0, s1, s2, s3⟩ := id R2
   obtain ⟨_, g0, g1, _, _⟩ := id s9b
   obtain ⟨HE, HT⟩ := line_end (w := w) (bl [110, 111, 110, 101]) R2 (O9.up hx2) hlo9 (by omega) (bt B9 hx2)
   have HE := Lib.hid HE
   have HT := Lib.hid HT
   clear R2 s9b
   go_wp2_with fail
   (try simp only [Exit.inBlock, Exit.then])
   refine bodyPost_ret (v := .tuple #[.agg #[.slice A3 n3 c3, .slice P3 m3 d3], .string (bl [110, 111, 110, 101])]) ?_ rfl (by rw [HW.out]; exact HE.out)
   exact Eq.trans (results_two_tmp (p := 4) (u := 5) rfl _ _ (w.heap.size + 1) _ _ _ rfl HT.out Tryz.underlying26 rfl desk_size) rfl
end
end Go.Proofs.YtoinlkdmfclnbaaGreatDoor
