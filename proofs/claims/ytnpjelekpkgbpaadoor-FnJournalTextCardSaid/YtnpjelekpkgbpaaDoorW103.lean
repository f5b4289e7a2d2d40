/- Walk: l20Desk of the reference. Printed by gen_w103.py. -/
import Derived.Test.YtnpjelekpkgbpaaDoorW100
import Derived.Test.YtnpjelekpkgbpaaDoorW102
import Derived.Deep.RegionHeld3
namespace Go.Proofs.YtnpjelekpkgbpaaDoor
set_option linter.unusedVariables false
open Go.RowKit

theorem doX_len (xs : List Int) (yss : List (List Int)) (kd a b : Int) (s : ByteArray) : (doX xs yss kd a b s).2.1.length ≤ yss.length + 1 := by
  rcases hok : deskOkB xs yss with _ | _
  · rw [do_no hok]; simp
  rcases hb : backB yss kd a b s with _ | _
  · rcases hs : stayB xs kd a b s with _ | _
    · rw [do_go hok hb hs]
      show (pastX xs yss).length ≤ _
      unfold pastX
      split
      · simp
      · rw [List.length_drop, List.length_append]; simp
    · rw [do_stay hok hb hs]; exact Nat.le_succ _
  · rw [do_back hok hb]
    show (yss.take _).length ≤ _
    rw [List.length_take]; omega
theorem doX_seven (xs : List Int) (yss : List (List Int)) (kd a b : Int) (s : ByteArray) : (doX xs yss kd a b s).1.length ≤ 7 := by
  rcases hok : deskOkB xs yss with _ | _
  · rw [do_no hok]; simp
  · exact (desk_fit (doX_desk kd a b s hok)).2.1
section
variable {wr w6 : World} {lo g q Q1 n c m d g8 B : Nat} {A P : Option Addr} {xs : List Int} {yss : List (List Int)} {r3 : Bool}
theorem cutK_early (hc : Chg g (g + 1) wr w6) (hr : Rdr w6 lo g q) (h : RdD w6 w6.heap.size A n c xs P m d yss) (hf : FreshD w6 B A n c P m d) (ho : OwnRR w6 B (.slice P m d) yss) (hn : OwnIn w6 B w6.heap.size A n c xs) (hB : g8 + 1 ≤ B) (hg8 : wr.heap.size ≤ g8) (hg : g < wr.heap.size) (hz : Two w6 g8 (.slice none 0 0) (.slice none 0 0)) (hx : xs.length ≤ 7) (hy : yss.length ≤ Q1) :
    CutK wr ((w6.setCell ⟨g8, 0, none⟩ (.slice A n c)).setCell ⟨g8, 1, none⟩ (.slice P m d)) Q1 lo g q (.pointer (some ⟨g8, 0, none⟩)) (.bool r3) := by
  have hch : Chg g8 (g8 + 1) w6 ((w6.setCell ⟨g8, 0, none⟩ (.slice A n c)).setCell ⟨g8, 1, none⟩ (.slice P m d)) :=
    ((Chg.refl _ _ w6).setCell (p := ⟨g8, 0, none⟩) (Nat.le_refl _) (Nat.lt_succ_self _) _).setCell (p := ⟨g8, 1, none⟩) (Nat.le_refl _) (Nat.lt_succ_self _) _
  have hlo := hr.lo
  exact ⟨g8, A, n, c, xs, P, m, d, yss, r3, rfl, rfl, (hz.set0 _).set1 _, h.chgF hf hch hB, (hf.chgF h hch hB).more (by omega), (ho.chg hch hB).moreB (by omega), (hn.chg hch (.inr hB)).wide (by omega) hch.size, hx, hy, hr.chg hch (by omega) (.inl (by omega)), (hc.setNew (p := ⟨g8, 0, none⟩) hg8 _).setNew (p := ⟨g8, 1, none⟩) hg8 _⟩
end
/-- The end: the desk goes to the result's block. -/
theorem desk_end {w wr : World} {lo g p : Nat} {A P : Option Addr} {n c m d : Nat} {xs : List Int} {yss : List (List Int)} (hrd : RdD wr wr.heap.size A n c xs P m d yss) (hf : FreshD wr (w.heap.size + 1) A n c P m d) (hr : Rdr wr lo g (p + 1000)) (hc : Chg g (g + 1) w wr) (hres : Two wr w.heap.size (.slice none 0 0) (.slice none 0 0)) (hg : g < w.heap.size) (hn : n ≤ 7) :
    DeskDrawn w lo g p (.returned (.agg #[.slice A n c, .slice P m d])) ((wr.setCell ⟨w.heap.size, 0, none⟩ (.slice A n c)).setCell ⟨w.heap.size, 1, none⟩ (.slice P m d)) := by
  have hch : Chg w.heap.size (w.heap.size + 1) wr ((wr.setCell ⟨w.heap.size, 0, none⟩ (.slice A n c)).setCell ⟨w.heap.size, 1, none⟩ (.slice P m d)) :=
    ((Chg.refl _ _ wr).setCell (p := ⟨w.heap.size, 0, none⟩) (Nat.le_refl _) (Nat.lt_succ_self _) _).setCell (p := ⟨w.heap.size, 1, none⟩) (Nat.le_refl _) (Nat.lt_succ_self _) _
  have hlo := hr.lo
  exact ⟨A, n, c, xs, P, m, d, yss, rfl, hrd.chgF hf hch (Nat.le_refl _), hf.chgF hrd hch (Nat.le_refl _), hn, hr.chg hch (by omega) (.inl hg), (hc.setNew (p := ⟨w.heap.size, 0, none⟩) (Nat.le_refl _) _).setNew (p := ⟨w.heap.size, 1, none⟩) (Nat.le_refl _) _⟩
end Go.Proofs.YtnpjelekpkgbpaaDoor
