/- Walk: DeskLine of the program, at a line that is a deed. -/
import Derived.Test.YtoinlkdmfclnbaaGreatDoorW119
import Derived.Test.YtoinlkdmfclnbaaGreatDoorW122
import Derived.Test.YtoinlkdmfclnbaaGreatDoorV16
namespace Go.Proofs.YtoinlkdmfclnbaaGreatDoor
set_option linter.unusedVariables false
open Go.RowKit

/-- a desk of the call's own, and a text -/
def LineO (w : World) (r1 : List Int) (r2 : List (List Int)) (t : ByteArray) (e : Ending) (w' : World) : Prop :=
  ∃ A n c P m d, e = .returned (.tuple #[.agg #[.slice A n c, .slice P m d], .string t]) ∧ OwnD w' w.heap.size w'.heap.size A n c r1 P m d r2 ∧ Below w.heap.size w w'
def okT (b : Bool) : ByteArray := if b then ⟨#[111, 107]⟩ else ⟨#[110, 111, 116]⟩
theorem line_end {w wr : World} {lo hi n c m d : Nat} {A P : Option Addr} {r1 : List Int} {r2 : List (List Int)} (t : ByteArray) (hR : Two wr (w.heap.size + 1) (.slice none 0 0) (.slice none 0 0)) (hO : OwnD wr lo hi A n c r1 P m d r2) (hlo : w.heap.size + 2 ≤ lo) (hhi : hi ≤ wr.heap.size) (hB : Below w.heap.size w wr) :
    LineO w r1 r2 t (.returned (.tuple #[.agg #[.slice A n c, .slice P m d], .string t])) ((wr.setCell ⟨w.heap.size + 1, 0, none⟩ (.slice A n c)).setCell ⟨w.heap.size + 1, 1, none⟩ (.slice P m d)) ∧
    Two ((wr.setCell ⟨w.heap.size + 1, 0, none⟩ (.slice A n c)).setCell ⟨w.heap.size + 1, 1, none⟩ (.slice P m d)) (w.heap.size + 1) (.slice A n c) (.slice P m d) := by
  have hch : Chg (w.heap.size + 1) (w.heap.size + 2) wr ((wr.setCell ⟨w.heap.size + 1, 0, none⟩ (.slice A n c)).setCell ⟨w.heap.size + 1, 1, none⟩ (.slice P m d)) :=
    ((Chg.refl _ _ wr).setCell (p := ⟨w.heap.size + 1, 0, none⟩) (by simp) (by simp) _).setCell (p := ⟨w.heap.size + 1, 1, none⟩) (by simp) (by simp) _
  have hz := hB.size
  have hzr := hR.1
  exact ⟨⟨A, n, c, P, m, d, rfl, (hO.chg hch (.inr (by omega))).wide (by omega) (by have := hch.size; omega), hB.trans (hch.belowLo (B := w.heap.size) (by omega) (by omega))⟩, (hR.set0 _).set1 _⟩
theorem dt_x {l : List UInt8} {kd a b : Int} {x : List UInt8} (h : rdV l = ((kd, a, b, x), true)) : x.length ≤ 20 := by
  have h1 : dtL kd a b x ≠ [] := by
    have := rdV_text (l := l) (by rw [h])
    rw [h] at this
    intro e
    have h2 : dtL kd a b x = l := this.2
    rw [e] at h2
    exact this.1 h2.symm
  have h9 := dt_of (kd := kd) (a := a) (b := b) (l := x) h1
  generalize dtL kd a b x = t9 at h9
  cases h9 with
  | back => decide
  | lead i j hi hj => decide
  | behind l h => have := tx_len h; omega
  | name l h => have := tx_len h; omega
  | power n h => decide
set_option maxRecDepth 100000 in
set_option maxHeartbeats 3200000 in
theorem deskLine_deed (A P : Option Addr) (n c m d : Nat) (xs : List Int) (yss : List (List Int)) (s : ByteArray) (kd a b : Int) (x : List UInt8) (w : World) (h : RdD w w.heap.size A n c xs P m d yss) (hok : deskOkB xs yss = true) (hg : Glo w) (hs : s.size ≤ 2000000) (hr : rdV s.data.toList = ((kd, a, b, x), true)) :
    Calls Tryz.prog 9 #[.agg #[.slice A n c, .slice P m d], .string s] w (LineO w (doX xs yss kd a b (bl x)).1 (doX xs yss kd a b (bl x)).2.1 (okT (doX xs yss kd a b (bl x)).2.2)) := by
  have hx := dt_x hr
  have hW : Below w.heap.size w ((w.alloc (.cells #[.slice A n c, .slice P m d] 26)).alloc (.cells #[.slice none 0 0, .slice none 0 0] 26)) := ((Below.refl _ _).alloc (Nat.le_refl _) _).alloc (by simp) _
  have h1 := h.up hW
  have hr1 := Two.made (w.alloc (.cells #[.slice A n c, .slice P m d] 26)) 26 (.slice none 0 0) (.slice none 0 0)
  have ha := (Two.made w 26 (.slice A n c) (.slice P m d)).alloc (.cells #[.slice none 0 0, .slice none 0 0] 26)
  simp only [World.size_alloc] at hr1
  have K1 := deskOk_c A P n c m d xs yss _ h1
  rw [hok] at K1
  have KD := fun W (h : RdD W W.heap.size A n c xs P m d yss) => deskDo_c A P n c m d xs yss kd a b (bl x) W h (by rw [bl_size]; omega)
  generalize doX xs yss kd a b (bl x) = R at *
  obtain ⟨r1, r2, r3⟩ := R
  go_enter Tryz.func9, Tryz.ntmps9
  go_wp2_with fail
  generalize ((w.alloc (.cells #[.slice A n c, .slice P m d] 26)).alloc (.cells #[.slice none 0 0, .slice none 0 0] 26)) = w1 at *
  refine K1.mono ?_
  rintro e w2 ⟨rfl, hb2⟩
  have h2 := h1.up hb2
  have hr2 := hr1.up hb2
  have ha2 := ha.up hb2
  have hB2 := bt hW hb2
  have hg2 := hg.up hB2
  have K3 := readDeed_c s w2 hs hg2
  rw [hr] at K3
  unfold RdOut at K3
  simp only at K3
  clear K1 h1 hr1 ha hW hb2 hg2
  go_wp2_with fail
  refine K3.mono ?_
  rintro e w3 ⟨rfl, hb3⟩
  have hbA := below_new w3 (.cells #[.int .i64 kd, .int .i64 a, .int .i64 b, .string (bl x)] 55)
  have hF4 := Four.made w3 55 kd a b (bl x)
  have h4 := (h2.up hb3).up hbA
  have hr4 := (hr2.up hb3).up hbA
  have ha4 := (ha2.up hb3).up hbA
  have hB4 := bt (bt hB2 hb3) hbA
  clear K3 h2 hr2 ha2 hB2 hb3 hbA
  obtain ⟨_, a0, a1, _, _⟩ := id ha4
  obtain ⟨_, f0, f1, f2, f3⟩ := id hF4
  go_wp2_with fail
  generalize w3.alloc (.cells #[.int .i64 kd, .int .i64 a, .int .i64 b, .string (bl x)] 55) = w4 at *
  clear a0 a1 f0 f1 f2 f3
  refine (KD _ h4).mono ?_
  rintro e w5 ⟨A5, n5, c5, P5, m5, d5, rfl, hO5, hb5⟩
  have hbA := below_new w5 (.cells #[.slice A5 n5 c5, .slice P5 m5 d5] 26)
  have hT6 := Two.made w5 26 (.slice A5 n5 c5) (.slice P5 m5 d5)
  have hO6 := hO5.up hbA
  have hz5 := hb5.size
  have hz6 := hbA.size
  have hr6 := (hr4.up hb5).up hbA
  have hB6 := bt (bt hB4 hb5) hbA
  have hlo : w.heap.size + 2 ≤ w4.heap.size := hr4.1
  simp only at hO6
  clear KD h4 hr4 ha4 hB4 hF4 hb5 hbA hO5
  obtain ⟨_, t0, t1, t2, t3⟩ := id hT6
  obtain ⟨_, s0, s1, s2, s3⟩ := id hr6
  rcases r3 with _ | _
  · obtain ⟨HE, HT⟩ := line_end (w := w) (okT false) hr6 hO6 hlo (by omega) hB6
    have HE := Lib.hid HE
    have HT := Lib.hid HT
    clear hr6 hO6 hB6 hT6
    go_wp2_with fail
    (try simp only [Exit.inBlock, Exit.then])
    refine bodyPost_ret (v := .tuple #[.agg #[.slice A5 n5 c5, .slice P5 m5 d5], .string (okT false)]) ?_ rfl HE.out
    exact Eq.trans (results_two_tmp (p := 4) (u := 5) rfl _ _ (w.heap.size + 1) _ _ _ rfl HT.out Tryz.underlying26 rfl desk_size) rfl
  · obtain ⟨HE, HT⟩ := line_end (w := w) (okT true) hr6 hO6 hlo (by omega) hB6
    have HE := Lib.hid HE
    have HT := Lib.hid HT
    clear hr6 hO6 hB6 hT6
    go_wp2_with fail
    (try simp only [Exit.inBlock, Exit.then])
    refine bodyPost_ret (v := .tuple #[.agg #[.slice A5 n5 c5, .slice P5 m5 d5], .string (okT true)]) ?_ rfl HE.out
    exact Eq.trans (results_two_tmp (p := 4) (u := 5) rfl _ _ (w.heap.size + 1) _ _ _ rfl HT.out Tryz.underlying26 rfl desk_size) rfl
end Go.Proofs.YtoinlkdmfclnbaaGreatDoor
