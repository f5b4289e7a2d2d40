/- Walks: LoopsOf, TreeOk (impl). -/
import Derived.Test.YtlbiioncpeondaaW33
import Derived.Test.YtlbiioncpeondaaRo
namespace Go.Proofs.Ytlbiioncpeondaa
set_option linter.unusedVariables false
open Go.RowKit

def loopsI (xs : List Int) : List (List Int) := if mapOk xs then loopsN (toN xs) else []
theorem loopsI_ok {f : List Nat} (hf : MapN f) : loopsI (ints f) = loopsN f := by unfold loopsI; rw [if_pos (mapOk_ints hf), toN_ints]
theorem loopsI_no {xs : List Int} (h : mapOk xs = false) : loopsI xs = [] := by unfold loopsI; rw [h]; simp
def Rows (xss : List (List Int)) (w : World) (e : Ending) (w' : World) : Prop := ∃ v, e = .returned v ∧ OwnRR w' w.heap.size v xss ∧ Below w.heap.size w w'
theorem OwnV.inn {w : World} {B : Nat} {A : Option Addr} {n c : Nat} {xs : List Int} (h : Own w B A n c xs) : OwnIn w B w.heap.size A n c xs := h.inn
set_option maxRecDepth 100000 in
set_option maxHeartbeats 800000 in
theorem loopsOf_c (A : Option Addr) (n c : Nat) (xs : List Int) (w : World) (h : Rd w w.heap.size A n c xs) :
    Calls Try.prog 58 #[.slice A n c] w (Rows (loopsI xs) w) := by
  rcases hs : mapOk xs with _ | _
  · have HW := Lib.hid (loopsI_no hs)
    go_enter Try.func58, Try.ntmps58
    go_wp2_with (go_at_call 61; refine (mapOk_c _ _ _ _ _ h).mono ?_; rintro e w' ⟨rfl, rfl⟩)
    go_ret
    exact ⟨_, rfl, by rw [HW.out]; exact OwnRR.nil_ _ _, Below.refl _ _⟩
  · obtain ⟨f, rfl, hf⟩ := mapOk_ex hs
    obtain rfl : n = f.length := by rw [← h.len, ints_len]
    have HW := Lib.hid (loopsI_ok hf)
    have h7 := hf.le7
    go_enter Try.func58, Try.ntmps58
    go_wp2_with (go_at_call 61; refine (mapOk_c _ _ _ _ _ h).mono ?_; rintro e w' ⟨rfl, rfl⟩)
    go_loopw [3, 10] (fun v i wr => ∃ k : Nat, k ≤ f.length ∧ i = .int .i64 k ∧ OwnRR wr w.heap.size v (loopsK f k) ∧ Below w.heap.size w wr) (fun _ i _ => f.length - (intOf i).toNat)
    case atStart => exact ⟨0, Nat.zero_le _, rfl, OwnRR.nil_ _ _, Below.refl _ _⟩
    case round =>
      obtain ⟨k, hk, rfl, hown, hbw⟩ := hrel
      by_cases hlt : k < f.length
      · have hli := loopI_ok hf hlt
        have hwi := wayI_ok hf hlt
        have hrd := h.up hbw
        go_wp2_with fail
        refine (loopOf_c _ _ _ _ _ _ hrd).mono ?_
        rintro e w1 ⟨rfl, hb1⟩
        rw [hli]
        have hown1 := hown.up hb1
        have hrd1 := hrd.up hb1
        have hbw1 := bt hbw hb1
        clear hown hrd hbw hb1 hli
        by_cases he : lo f k = k
        · have HT := Lib.hid (loopsK_t he)
          rw [he]
          clear he
          go_wp2_with fail
          refine (wayFrom_c _ _ _ _ _ _ hrd1).mono ?_
          rintro e w2 ⟨v, rfl, hO, hb2⟩
          rw [hwi] at hO
          obtain ⟨A2, c2, rfl, hO2⟩ := hO.form
          have hown2 := hown1.up hb2
          have hbw2 := bt hbw1 hb2
          have hy := (hO2.inn).wide (lo' := w.heap.size) hbw1.size (Nat.le_refl _)
          have hln : (loopsK f k).length ≤ 1000000000 := by have := loopsK_len f k; omega
          have hsz := hbw2.size
          clear hown1 hrd1 hbw1 hb2 hO hO2 hwi
          go_wp2_with (at_builtin; refine app_rr w2 A2 _ c2 rfl _ _ rfl w.heap.size _ (loopsK f k) rfl hown2 rfl _ hy hln hsz ?_; intro v' w3 hown3 hb3)
          go_roundw
          case rel => exact ⟨k + 1, by omega, by go_num, by rw [HT.out]; exact hown3, hbw2.trans hb3⟩
          case measure => simp [intOf]; omega
        · have HT := Lib.hid (loopsK_f he)
          have hq : ((lo f k : Int) == (k : Int)) = false := by rw [beq_eq_false_iff_ne]; omega
          clear he
          go_wp2_with fail
          go_roundw
          case rel => exact ⟨k + 1, by omega, by go_num, by rw [HT.out]; exact hown1, hbw1⟩
          case measure => simp [intOf]; omega
      · obtain rfl : k = f.length := by omega
        go_wp2_with fail
        go_ret
        exact ⟨_, rfl, by rw [HW.out]; exact hown, hbw⟩
end Go.Proofs.Ytlbiioncpeondaa
