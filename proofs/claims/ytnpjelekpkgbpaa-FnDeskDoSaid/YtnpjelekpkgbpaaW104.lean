/- Walks: the drawing of a desk for DeskOk; the law FnDeskOk. -/
import Derived.Test.YtnpjelekpkgbpaaW103
namespace Go.Proofs.Ytnpjelekpkgbpaa
set_option linter.unusedVariables false
open Go.RowKit

def DrawnD (w : World) (e : Ending) (w' : World) : Prop :=
  ∃ A n c xs P m d yss, e = .returned (.agg #[.slice A n c, .slice P m d]) ∧ RdD w' w'.heap.size A n c xs P m d yss ∧ Below w.heap.size w w'
set_option maxRecDepth 100000 in
set_option maxHeartbeats 800000 in
theorem drawDeskOk_c (A : Option Addr) (n c : Nat) (bs : List Nat) (w : World) (h : RdB w w.heap.size A n c bs) :
    Calls Try.prog 31 #[.slice A n c] w (DrawnD w) := by
  have hR1 := Two.made w 30 (.slice none 0 0) (.slice none 0 0)
  have hb1 := below_new w (.cells #[.slice none 0 0, .slice none 0 0] 30)
  have hB1 := (h.below hb1).more hb1.size
  go_enter Try.func31, Try.ntmps31
  go_wp2_with fail
  generalize w.alloc (.cells #[.slice none 0 0, .slice none 0 0] 30) = w1 at *
  refine (open_c A n c bs _ hB1).mono ?_
  rintro e w2 ⟨rfl, hr2, hb2⟩
  have hR2 := hR1.up hb2
  have hz2 := hb2.size
  have hz1 := hR1.1
  have hbw2 := bt hb1 hb2
  clear hR1 hb1 hB1 hb2
  go_wp2_with fail
  refine (desk_c w1.heap.size w1.heap.size 0 2 _ hr2 (by omega) (by omega)).mono ?_
  rintro e w3 ⟨A3, n3, c3, xs, P3, m3, d3, yss, rfl, hD, hF, hn, hr3, hc3⟩
  have hgl := hr2.lt
  have hR3 := hR2.chg hc3 (.inl hz1)
  have hB3 := hbw2.trans (hc3.belowLo (B := w.heap.size) (by omega) (by omega))
  have hch : Chg w.heap.size (w.heap.size + 1) w3 ((w3.setCell ⟨w.heap.size, 0, none⟩ (.slice A3 n3 c3)).setCell ⟨w.heap.size, 1, none⟩ (.slice P3 m3 d3)) :=
    ((Chg.refl _ _ w3).setCell (p := ⟨w.heap.size, 0, none⟩) (Nat.le_refl _) (Nat.lt_succ_self _) _).setCell (p := ⟨w.heap.size, 1, none⟩) (Nat.le_refl _) (Nat.lt_succ_self _) _
  have hz3 := hc3.size
  have hend : DrawnD w (.returned (.agg #[.slice A3 n3 c3, .slice P3 m3 d3])) ((w3.setCell ⟨w.heap.size, 0, none⟩ (.slice A3 n3 c3)).setCell ⟨w.heap.size, 1, none⟩ (.slice P3 m3 d3)) :=
    ⟨A3, n3, c3, xs, P3, m3, d3, yss, rfl, hD.chgF hF hch (by omega), hB3.trans (hch.belowLo (B := w.heap.size) (Nat.le_refl _) (by omega))⟩
  have hT := (hR3.set0 (.slice A3 n3 c3)).set1 (.slice P3 m3 d3)
  obtain ⟨_, r0, r1, r2, r3⟩ := id hR3
  have HE := Lib.hid hend
  have HT := Lib.hid hT
  clear hend hT hch hD hF hR3 hR2 hr2 hr3 hc3
  go_wp2_with fail
  (try simp only [Exit.inBlock, Exit.then])
  refine bodyPost_ret (v := .agg #[.slice A3 n3 c3, .slice P3 m3 d3]) ?_ rfl HE.out
  exact results_two (p := 2) rfl _ _ w.heap.size _ _ _ rfl HT.out Try.underlying30 rfl desk_size
set_option maxRecDepth 100000 in
set_option maxHeartbeats 800000 in
theorem walk_FnDeskOk (A : Option Addr) (n c : Nat) (bs : List Nat) (w : World) (h : RdB w w.heap.size A n c bs) :
    Calls Try.prog 7 #[.slice A n c] w fun e w' => e = .returned (.bool true) ∧ Below w.heap.size w w' := by
  have hmx := h.max
  have hcp := h.cap
  unfold maxLen at hmx
  by_cases hbig : 1048576 < n
  · go_enter Try.func7, Try.ntmps7
    go_wp2_with fail
    go_ret
    exact ⟨rfl, Below.refl _ _⟩
  go_enter Try.func7, Try.ntmps7
  go_wp2_with fail
  refine (drawDeskOk_c A n c bs _ h).mono ?_
  rintro e w1 ⟨A1, n1, c1, xs, P1, m1, d1, yss, rfl, hD1, hb1⟩
  have hT2 := Two.made w1 30 (.slice A1 n1 c1) (.slice P1 m1 d1)
  have hbA := below_new w1 (.cells #[.slice A1 n1 c1, .slice P1 m1 d1] 30)
  have hD2 : RdD _ _ A1 n1 c1 xs P1 m1 d1 yss := ⟨hD1.1.up hbA, hD1.2.up hbA⟩
  have hB2 := bt hb1 hbA
  clear hD1 hb1 hbA
  go_wp2_with fail
  generalize w1.alloc (.cells #[.slice A1 n1 c1, .slice P1 m1 d1] 30) = w2 at *
  have K2 := deskOk_c A1 P1 n1 c1 m1 d1 xs yss _ hD2
  rcases hok : deskOkB xs yss with _ | _
  all_goals
    rw [hok] at K2
    refine K2.mono ?_
    rintro e w3 ⟨rfl, hb3⟩
    have hT3 := hT2.up hb3
    have hD3 : RdD w3 w3.heap.size A1 n1 c1 xs P1 m1 d1 yss := ⟨hD2.1.up hb3, hD2.2.up hb3⟩
    have hB3 := bt hB2 hb3
    have K3 := sDeskOk_c A1 P1 n1 c1 m1 d1 xs yss _ hD3
    rw [hok] at K3
    obtain ⟨_, t0, t1, _, _⟩ := id hT3
    clear K2 hb3
    go_wp2_with fail
    clear t0 t1
    refine K3.mono ?_
    rintro e w4 ⟨rfl, hb4⟩
    have hT4 := hT3.up hb4
    have hD4 : RdD w4 w4.heap.size A1 n1 c1 xs P1 m1 d1 yss := ⟨hD3.1.up hb4, hD3.2.up hb4⟩
    have hB4 := bt hB3 hb4
    obtain ⟨_, t0, t1, _, _⟩ := id hT4
    clear K3 hb4
  · have K5 := deskOk_c none none 0 0 0 0 [] [] w4 ⟨Rd.nil_ _ _, RdR.nil_ _ _⟩
    rw [show deskOkB [] [] = false from rfl] at K5
    clear hok
    go_wp2_with fail
    refine K5.mono ?_
    rintro e w5 ⟨rfl, hb5⟩
    have hB5 := bt hB4 hb5
    go_wp2_with fail
    refine (alive_c _).mono ?_
    rintro e w6 ⟨rfl, hb6⟩
    have hB6 := bt hB5 hb6
    go_wp2_with fail
    go_ret
    exact ⟨rfl, hB6⟩
  · have K5 := deskOk_c A1 none n1 c1 0 0 xs [] w4 ⟨hD4.1, RdR.nil_ _ _⟩
    rw [desk_yes (desk_parts hok).1 (Nat.zero_le _) (fun k hk => absurd hk (Nat.not_lt_zero _))] at K5
    clear hok
    go_wp2_with fail
    refine K5.mono ?_
    rintro e w5 ⟨rfl, hb5⟩
    have hB5 := bt hB4 hb5
    have K6 := deskOk_c none none 0 0 0 0 [] [] w5 ⟨Rd.nil_ _ _, RdR.nil_ _ _⟩
    rw [show deskOkB [] [] = false from rfl] at K6
    clear K5 hb5 t0 t1
    go_wp2_with fail
    refine K6.mono ?_
    rintro e w6 ⟨rfl, hb6⟩
    have hB6 := bt hB5 hb6
    go_wp2_with fail
    refine (alive_c _).mono ?_
    rintro e w7 ⟨rfl, hb7⟩
    have hB7 := bt hB6 hb7
    go_wp2_with fail
    go_ret
    exact ⟨rfl, hB7⟩
end Go.Proofs.Ytnpjelekpkgbpaa
