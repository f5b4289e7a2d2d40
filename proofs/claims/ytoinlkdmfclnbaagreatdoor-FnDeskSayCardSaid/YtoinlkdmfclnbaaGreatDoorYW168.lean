/- Bundle W168. -/
import Derived.Test.YtoinlkdmfclnbaaGreatDoorYVM
import Derived.Test.YtoinlkdmfclnbaaGreatDoorYW161
namespace Go.Proofs.YtoinlkdmfclnbaaGreatDoor
set_option linter.unusedVariables false
section
open Go.RowKit
theorem made41T : ∃ Z : Array Value, (∀ w : World, (Instr.makeSlice 34 (.int .i64 41) (.int .i64 41)).run Tryz.prog w = .ok (.slice (some ⟨w.heap.size, 0, none⟩) 41 41) (w.alloc (.cells Z 9))) ∧
    ∀ w : World, RdT (w.alloc (.cells Z 9)) (w.alloc (.cells Z 9)).heap.size (some ⟨w.heap.size, 0, none⟩) 41 41 (List.replicate 41 ⟨#[]⟩) := by
 obtain ⟨i0, hi, hz0, hz1, hz2⟩ := info_parts text_info
 have hr := fun w => run_make (P := Tryz.prog) w 34 9 i0 _ Tryz.underlying34 hi hz0 .i64 .i64 41 41 (by omega) (by omega) (by rw [hz2]; omega) (by omega)
 refine ⟨_, hr, fun w => ?_⟩
 obtain ⟨w', h1, h2, h3⟩ := run_make_full (P := Tryz.prog) (w := w) w.heap.size 34 9 i0 _ 1 Tryz.underlying34 hi hz0 hz1 .i64 .i64 41 (by rw [hz2]; omega) (by unfold maxLen; omega) (Nat.le_refl _)
 have h4 := hr w
 have h5 := h1.symm.trans h4
 obtain ⟨-, rfl⟩ := Result.ok.inj h5
 have hE : OwnP (w.alloc (.cells (madeCells (Value.string ⟨#[]⟩).cells (Int.toNat 41 * i0.size)) 9)) w.heap.size (w.heap.size + 1) (some ⟨w.heap.size, 0, none⟩) 41 41 (List.replicate 41 ⟨#[]⟩) := by
  refine ⟨by simp, ?_, fun k hk => by cases hk; exact Nat.lt_succ_self _⟩
  simpa [toList_madeCells_one, Value.cells] using h2
 exact hE.rd
theorem ln_rep (n : Nat) : Ln (List.replicate n ⟨#[]⟩) := by
 intro k hk
 rw [gT_get hk]
 simp
 exact Nat.zero_le _
theorem ln_app {ts : List ByteArray} {t : ByteArray} (h : Ln ts) (ht : t.size ≤ 2000000) : Ln (ts ++ [t]) := by
 intro k hk
 rw [List.length_append, List.length_singleton] at hk
 rw [gT_get (by simp; omega)]
 rcases Nat.lt_or_ge k ts.length with h1 | h1
 · rw [List.getElem_append_left h1, ← gT_get h1]; exact h k h1
 · obtain rfl : k = ts.length := by omega
   simp
   exact ht
def DrawnS (w : World) (e : Ending) (w' : World) : Prop :=
 ∃ A n c xs P m d yss E N C ts, e = .returned (.tuple #[.agg #[.slice A n c, .slice P m d], .slice E N C]) ∧ RdD w' w'.heap.size A n c xs P m d yss ∧ RdT w' w'.heap.size E N C ts ∧ Ln ts ∧ N ≤ 41 ∧ Below w.heap.size w w'
set_option maxRecDepth 100000 in
set_option maxHeartbeats 3200000 in
theorem drawDeskSay_c (A : Option Addr) (n c : Nat) (bs : List Nat) (w : World) (h : RdB w w.heap.size A n c bs) :
    Calls Tryz.prog 16 #[.slice A n c] w (DrawnS w) := by
 have hR1 := Two.made w 26 (.slice none 0 0) (.slice none 0 0)
 have hb1 := below_new w (.cells #[.slice none 0 0, .slice none 0 0] 26)
 have hB1 := h.below hb1
 go_enter Tryz.func16, Tryz.ntmps16
 go_wp2_with fail
 generalize w.alloc (.cells #[.slice none 0 0, .slice none 0 0] 26) = w1 at *
 refine (openB_c w.heap.size A n c bs _ hB1 (by have := hb1.size; omega)).mono ?_
 rintro e w2 ⟨rfl, hr2, hb2⟩
 have hR2 := hR1.up hb2
 have hz2 := hb2.size
 have hz1 := hR1.1
 have hbw2 := bt hb1 hb2
 clear hR1 hb1 hB1 hb2
 go_wp2_with fail
 refine (desk_c w1.heap.size w.heap.size 0 12 _ hr2 (by omega) (by omega)).mono ?_
 rintro e w3 ⟨A3, n3, c3, xs, P3, m3, d3, yss, rfl, hD, hF, hn, hr3, hc3⟩
 have hgl := hr2.lt
 have hR3 := hR2.chg hc3 (.inl hz1)
 have hB3 := hbw2.trans (hc3.belowLo (B := w.heap.size) (by omega) (by omega))
 have hz3 := hc3.size
 have hbA := below_new w3 (.cells #[.slice A3 n3 c3, .slice P3 m3 d3] 26)
 have hT4 := Two.made w3 26 (.slice A3 n3 c3) (.slice P3 m3 d3)
 have hR4 := hR3.up hbA
 have hB4 := bt hB3 hbA
 have hr4 := hr3.up hbA
 have hD4 : RdD _ _ A3 n3 c3 xs P3 m3 d3 yss := hD.up hbA
 have hF4 := hF.upF hD hbA
 have hz4 : (w3.alloc (.cells #[.slice A3 n3 c3, .slice P3 m3 d3] 26)).heap.size = w3.heap.size + 1 := World.size_alloc _ _
 clear hR2 hr2 hc3 hR3 hB3 hbA hr3 hbw2 hD hF
 go_wp2_with fail
 generalize w3.alloc (.cells #[.slice A3 n3 c3, .slice P3 m3 d3] 26) = w4 at *
 have hq : ∀ q, (Value.slice A3 n3 c3).ownBlock = some q → w1.heap.size + 1 ≤ q := fun q hq => by have := hF4.1 q hq; omega
 have hC0 : Chg w1.heap.size (w1.heap.size + 1) w4 (w4.alloc (.cells #[] 9)) := (Chg.refl _ _ _).allocNew _
 have hP0 : OwnP (w4.alloc (.cells #[] 9)) w4.heap.size (w4.heap.size + 1) (some ⟨w4.heap.size, 0, none⟩) 0 0 [] :=
  ⟨rfl, World.ownsRow_made w4 #[] 0 (Nat.le_refl _) (Nat.zero_le _) (by simp), fun k hk => by cases hk; exact Nat.lt_succ_self _⟩
 have hr0 := hr4.al (.cells #[] 9)
 have hzL : (w4.alloc (.cells #[] 9)).heap.size = w4.heap.size + 1 := World.size_alloc _ _
 refine (pickP_c w1.heap.size w.heap.size _ 7 _ hr0 (by omega) (by omega) (by omega)).mono ?_
 rintro e w5 ⟨x, rfl, hx, hr5, hc5⟩
 have hP5 : OwnP w5 w4.heap.size (w4.heap.size + 1) (some ⟨w3.heap.size + 1, 0, none⟩) 0 0 [] := by
  rw [← hz4]
  exact hP0.chg hc5 (.inr (by omega))
 have hC5 := hC0.chg_ hc5 (.inr ⟨Nat.le_refl _, Nat.le_refl _⟩)
 have hz5 := hc5.size
 have HX := Lib.hid (show (x : Int) < 7 from hx)
 have HR4 := Lib.hid hR4
 have HB4 := Lib.hid hB4
 have HD4 := Lib.hid hD4
 have HF4 := Lib.hid hF4
 have HT4 := Lib.hid hT4
 clear hP0 hr0 hr4 hC0 hc5 hR4 hB4 hD4 hF4 hT4
 go_wp2_with fail
 go_loopw [6, 7] (fun v i wr => ∃ (j k C l2 h2 : Nat) (T : Option Addr) (ts : List ByteArray), v = .slice T j C ∧ i = .int .i64 k ∧ j + k ≤ 6 ∧ OwnP wr l2 h2 T j C ts ∧ Ln ts ∧ Rdr wr w.heap.size w1.heap.size (0 + 1000 + 1 + 200 * j) ∧ Chg w1.heap.size (w1.heap.size + 1) w4 wr ∧ w4.heap.size ≤ l2 ∧ h2 ≤ wr.heap.size ∧ l2 < h2) (fun _ i _ => (intOf i).toNat)
 case atStart => exact ⟨0, x, 0, w4.heap.size, w4.heap.size + 1, _, [], rfl, rfl, by have := HX.out; omega, hP5, fun k hk => absurd hk (Nat.not_lt_zero _), hr5, hC5, Nat.le_refl _, by omega, Nat.lt_succ_self _⟩
 case round =>
  obtain ⟨j, k, C, l2, h2, T, ts, rfl, rfl, hjk, hP, hL, hr, hC, hl2, hh2, hlh⟩ := hrel
  clear hP5 hr5 hC5
  have hT := HT4.out.chg hC (.inr (by omega))
  have hzC := hC.size
  obtain ⟨_, t0, t1, t2, t3⟩ := id hT
  rcases k with _ | k
  · have HL := Lib.hid hL
    have HP := Lib.hid hP
    have HC := Lib.hid hC
    clear hL hP hC
    go_wp2_with fail
    refine (odd_c w1.heap.size w.heap.size _ 30 _ hr (by omega) (by omega)).mono ?_
    rintro e w6 ⟨b, rfl, hr6, hc6⟩
    have hC6 := HC.out.chg_ hc6 (.inr ⟨Nat.le_refl _, Nat.le_refl _⟩)
    have hP6 := HP.out.chg hc6 (.inr (by omega))
    have hR6 := HR4.out.chg hC6 (.inl hz1)
    have hT6 := HT4.out.chg hC6 (.inr (by omega))
    have hD6 := HD4.out.chgF HF4.out hC6 (by omega)
    have hF6 := HF4.out.chgF HD4.out hC6 (by omega)
    have hB6 := HB4.out.trans (hC6.belowLo (B := w.heap.size) (by omega) (by omega))
    have hz6 := hc6.size
    clear hT t0 t1 t2 t3 hr hr6 hc6 hC6 HC HP
    obtain ⟨_, t0, t1, t2, t3⟩ := id hT6
    obtain ⟨_, r0, r1, r2, r3⟩ := id hR6
    rcases b with _ | _
    · have hC8 : Chg w.heap.size (w.heap.size + 1) w6 ((w6.setCell ⟨w.heap.size, 0, none⟩ (.slice A3 n3 c3)).setCell ⟨w.heap.size, 1, none⟩ (.slice P3 m3 d3)) :=
       ((Chg.refl _ _ w6).setCell (p := ⟨w.heap.size, 0, none⟩) (Nat.le_refl _) (Nat.lt_succ_self _) _).setCell (p := ⟨w.heap.size, 1, none⟩) (Nat.le_refl _) (Nat.lt_succ_self _) _
      have hend : DrawnS w (.returned (.tuple #[.agg #[.slice A3 n3 c3, .slice P3 m3 d3], .slice T j C])) ((w6.setCell ⟨w.heap.size, 0, none⟩ (.slice A3 n3 c3)).setCell ⟨w.heap.size, 1, none⟩ (.slice P3 m3 d3)) :=
       ⟨A3, n3, c3, xs, P3, m3, d3, yss, T, j, C, ts, rfl, hD6.chgF hF6 hC8 (by omega), (hP6.chg hC8 (.inr (by omega))).rd, HL.out, by omega, hB6.trans (hC8.belowLo (B := w.heap.size) (Nat.le_refl _) (by omega))⟩
      have HE := Lib.hid hend
      have HT := Lib.hid ((hR6.set0 (.slice A3 n3 c3)).set1 (.slice P3 m3 d3))
      clear hend hC8 hD6 hF6 hP6 hB6 hR6 hT6
      go_wp2_with fail
      (try simp only [Exit.inBlock, Exit.then])
      refine bodyPost_ret (v := .tuple #[.agg #[.slice A3 n3 c3, .slice P3 m3 d3], .slice T j C]) ?_ rfl HE.out
      exact Eq.trans (results_two_tmp (p := 2) (u := 3) rfl _ _ w.heap.size _ _ _ rfl HT.out Tryz.underlying26 rfl desk_size) rfl
    · obtain ⟨Z, hmk, hZ⟩ := made41T
      have hC8 : Chg w.heap.size (w.heap.size + 1) w6 ((w6.setCell ⟨w.heap.size, 0, none⟩ (.slice A3 n3 c3)).setCell ⟨w.heap.size, 1, none⟩ (.slice P3 m3 d3)) :=
       ((Chg.refl _ _ w6).setCell (p := ⟨w.heap.size, 0, none⟩) (Nat.le_refl _) (Nat.lt_succ_self _) _).setCell (p := ⟨w.heap.size, 1, none⟩) (Nat.le_refl _) (Nat.lt_succ_self _) _
      have hE9 := hZ ((w6.setCell ⟨w.heap.size, 0, none⟩ (.slice A3 n3 c3)).setCell ⟨w.heap.size, 1, none⟩ (.slice P3 m3 d3))
      have hb9 := below_new ((w6.setCell ⟨w.heap.size, 0, none⟩ (.slice A3 n3 c3)).setCell ⟨w.heap.size, 1, none⟩ (.slice P3 m3 d3)) (.cells Z 9)
      have hz9 : ((w6.setCell ⟨w.heap.size, 0, none⟩ (.slice A3 n3 c3)).setCell ⟨w.heap.size, 1, none⟩ (.slice P3 m3 d3)).heap.size = w6.heap.size := by simp
      rw [hz9] at hE9
      have hD8 := hD6.chgF hF6 hC8 (by omega)
      have hend : DrawnS w (.returned (.tuple #[.agg #[.slice A3 n3 c3, .slice P3 m3 d3], .slice (some ⟨w6.heap.size, 0, none⟩) 41 41])) (((w6.setCell ⟨w.heap.size, 0, none⟩ (.slice A3 n3 c3)).setCell ⟨w.heap.size, 1, none⟩ (.slice P3 m3 d3)).alloc (.cells Z 9)) :=
       ⟨A3, n3, c3, xs, P3, m3, d3, yss, _, 41, 41, _, rfl, hD8.up hb9, hE9, ln_rep 41, Nat.le_refl _, bt (hB6.trans (hC8.belowLo (B := w.heap.size) (Nat.le_refl _) (by omega))) hb9⟩
      have hR9 := ((hR6.set0 (.slice A3 n3 c3)).set1 (.slice P3 m3 d3)).up hb9
      have HE := Lib.hid hend
      have HT := Lib.hid hR9
      clear hend hC8 hD6 hF6 hP6 hB6 hR6 hT6 hE9 hR9 hD8 hZ hb9
      go_wp2_with fail
      (try simp only [Exit.inBlock, Exit.then])
      refine bodyPost_ret (v := .tuple #[.agg #[.slice A3 n3 c3, .slice P3 m3 d3], .slice (some ⟨w6.heap.size, 0, none⟩) 41 41]) ?_ rfl HE.out
      exact Eq.trans (results_two_tmp (p := 2) (u := 3) rfl _ _ w.heap.size _ _ _ rfl HT.out Tryz.underlying26 rfl desk_size) rfl
  · have hpos : (0 : Int) < ((k + 1 : Nat) : Int) := by omega
    have hD := HD4.out.chgF HF4.out hC (by omega)
    have HL := Lib.hid hL
    have HP := Lib.hid hP
    have HC := Lib.hid hC
    clear hL hP hC
    go_wp2_with fail
    refine (line20_c w1.heap.size w.heap.size (0 + 1000 + 1 + 200 * j) n3 c3 A3 xs _ hr hD.1 hn (by omega) (w1.heap.size + 1) hq (Nat.le_refl _)).mono ?_
    rintro e w6 ⟨t6, rfl, hS6, hr6, hc6⟩
    have hC6 := HC.out.chg_ hc6 (.inr ⟨Nat.le_refl _, Nat.le_refl _⟩)
    have hP6 := HP.out.chg hc6 (.inr (by omega))
    have hz6 := hc6.size
    have HR6 := Lib.hid hr6
    have HC6 := Lib.hid hC6
    have HP6 := Lib.hid hP6
    clear hT t0 t1 t2 t3 hr hr6 hc6 hC6 HC HP hD hP6
    go_wp2_with (at_builtin; refine app_textP w6 t6 rfl _ _ rfl l2 h2 j C T ts rfl HP6.out rfl (by omega) (by omega) ?_; intro T9 C9 w9 lo9 hi9 hP9 hc9 hor9)
    have hz9 := hc9.size
    go_roundw
    case rel => exact ⟨j + 1, k, C9, lo9, hi9, T9, _, rfl, by go_num, by omega, hP9, ln_app HL.out (by omega), (HR6.out.chg hc9 (by omega) (.inl (by omega))).more (by omega), HC6.out.chg_ hc9 (.inl hl2), by omega, by omega, hP9.lohi (Nat.succ_pos _)⟩
    case measure => simp [intOf]
end
end Go.Proofs.YtoinlkdmfclnbaaGreatDoor
