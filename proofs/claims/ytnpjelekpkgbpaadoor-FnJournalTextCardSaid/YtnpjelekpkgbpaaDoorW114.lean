/- Walks: the drawing of a deed for DeedText. -/
import Derived.Test.YtnpjelekpkgbpaaDoorW113
import Derived.Test.YtnpjelekpkgbpaaDoorW100
namespace Go.Proofs.YtnpjelekpkgbpaaDoor
set_option linter.unusedVariables false
open Go.RowKit

def DrawnDd (w : World) (e : Ending) (w' : World) : Prop :=
  ∃ (kd a b : Int) (s : ByteArray), e = .returned (.agg #[.int .i64 kd, .int .i64 a, .int .i64 b, .string s]) ∧ s.size ≤ 7 ∧ Below w.heap.size w w'
set_option maxRecDepth 100000 in
set_option maxHeartbeats 800000 in
theorem drawDeedText_c (A : Option Addr) (n c : Nat) (bs : List Nat) (w : World) (h : RdB w w.heap.size A n c bs) :
    Calls Tryd.prog 22 #[.slice A n c] w (DrawnDd w) := by
  have hR1 := FourF.made w 26 0 0 0 ⟨#[]⟩
  have hb1 := below_new w (.cells #[.int .i64 0, .int .i64 0, .int .i64 0, .string ⟨#[]⟩] 26)
  have hB1 := (h.below hb1).more hb1.size
  go_enter Tryd.func22, Tryd.ntmps22
  go_wp2_with fail
  generalize w.alloc (.cells #[.int .i64 0, .int .i64 0, .int .i64 0, .string ⟨#[]⟩] 26) = w1 at *
  refine (open_c A n c bs _ hB1).mono ?_
  rintro e w2 ⟨rfl, hr2, hb2⟩
  have hR2 := hR1.up hb2
  have hz2 := hb2.size
  have hz1 := hR1.1.1
  have hbw2 := bt hb1 hb2
  clear hR1 hb1 hB1 hb2
  go_wp2_with fail
  refine (map0_c w1.heap.size w1.heap.size 0 7 _ hr2 (by omega) (by omega) (by omega)).mono ?_
  rintro e w3 ⟨A3, n3, c3, xs, rfl, hO3, hn3, hr3, hc3⟩
  have hR3 := hR2.chg hc3 (.inl (by omega))
  have hB3 := hbw2.trans (hc3.belowLo (B := w.heap.size) (by omega) (by omega))
  have hz3 := hc3.size
  clear hR2 hr2 hc3 hbw2
  go_wp2_with fail
  refine (deed_c w1.heap.size w1.heap.size (0 + 30) n3 c3 A3 xs _ hr3 hO3.rd (by omega) (by omega)).mono ?_
  rintro e w4 ⟨kd, a, b, s, rfl, hs7, hr4, hc4⟩
  have hR4 := hR3.chg hc4 (.inl (by omega))
  have hB4 := hB3.trans (hc4.belowLo (B := w.heap.size) (by omega) (by omega))
  have hz4 := hc4.size
  have hend := (((hB4.setCell (p := ⟨w.heap.size, 0, none⟩) (Nat.le_refl _) (.int .i64 kd)).setCell (p := ⟨w.heap.size, 1, none⟩) (Nat.le_refl _) (.int .i64 a)).setCell (p := ⟨w.heap.size, 2, none⟩) (Nat.le_refl _) (.int .i64 b)).setCell (p := ⟨w.heap.size, 3, none⟩) (Nat.le_refl _) (.string s)
  have HT := Lib.hid (hR4.set kd a b s)
  have HE := Lib.hid hend
  obtain ⟨⟨_, r0, r1, r2, r3⟩, v0, v1, v2, v3⟩ := id hR4
  clear hend hR4 hB4 hr4 hc4 hR3 hB3 hr3 hO3
  go_wp2_with fail
  (try simp only [Exit.inBlock, Exit.then])
  refine bodyPost_ret (v := .agg #[.int .i64 kd, .int .i64 a, .int .i64 b, .string s]) ?_ rfl ⟨kd, a, b, s, rfl, hs7, HE.out⟩
  exact results_four (p := 2) rfl _ _ w.heap.size _ _ _ _ _ rfl HT.out.1.2 Tryd.underlying26 rfl deed_size
end Go.Proofs.YtnpjelekpkgbpaaDoor
