/- Walk: DeskDo of the reference, whole. -/
import Derived.Test.YtnpjelekpkgbpaaW83
import Derived.Test.YtnpjelekpkgbpaaW84
import Derived.Test.YtnpjelekpkgbpaaW85
import Derived.Test.YtnpjelekpkgbpaaW87
namespace Go.Proofs.Ytnpjelekpkgbpaa
set_option linter.unusedVariables false
open Go.RowKit

theorem back_is {yss : List (List Int)} {kd a b : Int} {s : ByteArray} : backB yss kd a b s = (isBack kd a b s && decide (yss ≠ [])) := rfl
theorem sDeskDo_c (A P : Option Addr) (n c m d : Nat) (xs : List Int) (yss : List (List Int)) (kd a b : Int) (s : ByteArray) (w : World) (h : RdD w w.heap.size A n c xs P m d yss) (hs : s.size ≤ 1000000000000) :
    Calls Try.prog 10 #[.agg #[.slice A n c, .slice P m d], .agg #[.int .i64 kd, .int .i64 a, .int .i64 b, .string s]] w (DoRd w (doX xs yss kd a b s)) := by
  rcases hok : deskOkB xs yss with _ | _
  · rw [do_no hok]; exact s_1 A P n c m d xs yss kd a b s w h hok
  have hl := h.2.len
  rcases hb : backB yss kd a b s with _ | _
  · have hnb : isBack kd a b s = false ∨ (isBack kd a b s = true ∧ m = 0) := by
      rcases hi : isBack kd a b s with _ | _
      · exact .inl rfl
      · right
        refine ⟨rfl, ?_⟩
        rw [back_is, hi, Bool.true_and] at hb
        have : yss = [] := by
          rcases yss with _ | ⟨y, r⟩
          · rfl
          · simp at hb
        rw [this] at hl
        exact hl.symm
    by_cases hmade : madeI xs kd a b s = []
    · rw [do_stay hok hb (stay_nil hmade)]
      exact s_3 A P n c m d xs yss kd a b s w h hok hs hnb hmade
    by_cases hsame : madeI xs kd a b s = xs
    · rw [do_stay hok hb (stay_same hsame)]
      exact s_4 A P n c m d xs yss kd a b s w h hok hs hnb hmade hsame
    have h8 := (desk_parts hok).2.1
    rw [do_go hok hb (stay_not hmade hsame)]
    by_cases h7 : m < 8
    · rw [past_lt (by omega)]
      exact s_5 A P n c m d xs yss kd a b s w h hok hs hnb hmade hsame _ rfl h7
    · rw [past_ge (by omega)]
      exact s_6 A P n c m d xs yss kd a b s w h hok hs hnb hmade hsame (by omega)
  · rw [do_back hok hb]
    obtain ⟨hk, ha, hb0, hs0, hy⟩ := back_iff.1 hb
    have hm : 0 < m := by
      rcases Nat.eq_zero_or_pos m with e | e
      · rw [e] at hl; exact absurd (List.length_eq_zero_iff.1 hl) hy
      · exact e
    have hi : isBack kd a b s = true := by
      rw [back_is, Bool.and_eq_true] at hb; exact hb.1
    rw [hl]
    exact s_2 A P n c m d xs yss kd a b s w h hok hs hi (m - 1) (by omega)
end Go.Proofs.Ytnpjelekpkgbpaa
