/- Walks: alive, sameInts (laws), TurnedOf (impl), the drawings of maps and sets (spec). -/
import Derived.Test.YtlbiioncpeondaaW17
import Derived.Test.YtlbiioncpeondaaM7
namespace Go.Proofs.Ytlbiioncpeondaa
set_option linter.unusedVariables false
open Go.RowKit

theorem rd_two (w : World) (a b : Int) : Rd (w.alloc (Obj.cells #[.int .i64 a, .int .i64 b] 3)) (w.alloc (Obj.cells #[.int .i64 a, .int .i64 b] 3)).heap.size (some ⟨w.heap.size, 0, none⟩) 2 2 [a, b] :=
  ⟨rfl, Nat.le_refl _, by unfold maxLen; omega, fun _ => ⟨w.heap.size, 0, rfl, by simp, fun k hk => by
    have : k = 0 ∨ k = 1 := by omega
    rcases this with rfl | rfl <;> simp [gI]⟩⟩
set_option maxHeartbeats 400000 in
theorem alive_c (w : World) : Calls Try.prog 22 #[] w fun e w' => e = .returned (.bool true) ∧ Below w.heap.size w w' := by
  have h1 : mapOk [1, 0] = true := by decide
  have h2 : mapOk [2, 0] = false := by decide
  go_enter Try.func22, Try.ntmps22
  go_wp2_with fail
  have hr1 := rd_two w 1 0
  have hb1 : Below w.heap.size w (w.alloc (Obj.cells #[.int .i64 1, .int .i64 0] 3)) := (Below.refl _ _).alloc (Nat.le_refl _) _
  generalize w.alloc (Obj.cells #[.int .i64 1, .int .i64 0] 3) = w1 at hr1 hb1 ⊢
  refine (mapOk_c _ _ _ _ _ hr1).mono ?_
  rintro e w' ⟨rfl, rfl⟩
  go_wp2_with fail
  have hr2 := rd_two w1 2 0
  have hb2 := bt hb1 ((Below.refl w1.heap.size w1).alloc (Nat.le_refl _) (Obj.cells #[.int .i64 2, .int .i64 0] 3))
  generalize w1.alloc (Obj.cells #[.int .i64 2, .int .i64 0] 3) = w2 at hr2 hb2 ⊢
  refine (mapOk_c _ _ _ _ _ hr2).mono ?_
  rintro e w' ⟨rfl, rfl⟩
  go_wp2_with fail
  go_ret
  exact ⟨rfl, hb2⟩

set_option maxHeartbeats 400000 in
theorem sameInts_c (A A' : Option Addr) (n c n' c' : Nat) (xs ys : List Int) (w : World) (h : Rd w w.heap.size A n c xs) (h' : Rd w w.heap.size A' n' c' ys) :
    Calls Try.prog 35 #[.slice A n c, .slice A' n' c'] w fun e w' => e = .returned (.bool (eqB xs ys)) ∧ ∃ m, w' = w.drewN m := by
  have HL := Lib.hid h.len
  have HL' := Lib.hid h'.len
  have hm := h.max
  have hc := h.cap
  have hm' := h'.max
  have hc' := h'.cap
  unfold maxLen at hm hm'
  by_cases hne : n = n'
  · subst hne
    go_enter Try.func35, Try.ntmps35
    go_wp2
    go_loopw [5] (fun i wr => ∃ k : Nat, k ≤ n ∧ i = .int .i64 k ∧ (∀ j, j < k → gI xs j = gI ys j) ∧ ∃ m, wr = w.drewN m) (fun i _ => n - (intOf i).toNat)
    case atStart => exact ⟨0, Nat.zero_le _, rfl, fun j hj => absurd hj (Nat.not_lt_zero _), 0, rfl⟩
    case round =>
      obtain ⟨k, hk, rfl, hall, m, rfl⟩ := hrel
      have HA := Lib.hid hall
      clear hall
      by_cases hlt : k < n
      · obtain ⟨b, off, rfl, hb, hcell⟩ := h.at_ hlt
        obtain ⟨b', off', rfl, hb', hcell'⟩ := h'.at_ hlt
        by_cases he : gI xs k = gI ys k
        · have hq : (gI xs k != gI ys k) = false := by simp [he]
          have HE := Lib.hid he
          clear he
          go_wp2
          go_quiet (fail)
          go_wp2
          go_roundw
          case rel => exact ⟨k + 1, by omega, by go_num, fun j hj => by
            rcases Nat.lt_or_ge j k with h' | h'
            · exact HA.out j h'
            · obtain rfl : j = k := by omega
              exact HE.out, _, rfl⟩
          case measure => simp [intOf]; omega
        · have hq : (gI xs k != gI ys k) = true := by simp [he]
          have HE := Lib.hid he
          clear he
          go_wp2
          go_quiet (fail)
          go_wp2
          go_ret
          exact ⟨boolEnd (decide_eq_false (fun e => HE.out (by rw [e]))).symm, _, World.drewN_drewN ..⟩
      · go_wp2
        go_ret
        exact ⟨boolEnd (decide_eq_true (eq_of_gI (by rw [HL.out, HL'.out]) (fun j hj => HA.out j (by have := HL.out; omega)))).symm, _, rfl⟩
  · have hq : ((n : Int) != (n' : Int)) = true := by simp; omega
    go_enter Try.func35, Try.ntmps35
    go_wp2
    go_ret
    exact ⟨boolEnd (decide_eq_false (fun e => hne (by rw [← HL.out, ← HL'.out, e]))).symm, 0, rfl⟩

/-! ### TurnedOf (impl) -/
theorem turn_start {w : World} {B n : Nat} (h : w.ownsRow B 3 1 (.slice (some ⟨B, 0, none⟩) n n) n (List.replicate n (Value.int .i64 0))) :
    OwnIn w B (B + 1) (some ⟨B, 0, none⟩) n n (ints (List.replicate n 0)) := by
  refine ⟨⟨by rw [ints_len]; simp, ?_⟩, fun k hk => by cases hk; exact Nat.lt_succ_self _⟩
  rw [ints_replicate, List.map_replicate]; exact h
/-! ### drawings -/
def MapOut (w : World) (e : Ending) (w' : World) : Prop :=
  ∃ (A : Option Addr) (n c : Nat) (xs : List Int), e = .returned (.slice A n c) ∧ OwnIn w' w.heap.size w'.heap.size A n c xs ∧ Drawn xs ∧ Below w.heap.size w w'
def SetOut (w : World) (e : Ending) (w' : World) : Prop :=
  ∃ (A : Option Addr) (n c : Nat) (xs : List Int) (s : Int), e = .returned (.tuple #[.slice A n c, .int .i64 s]) ∧ OwnIn w' w.heap.size w'.heap.size A n c xs ∧ Drawn xs ∧ Below w.heap.size w w'
end Go.Proofs.Ytlbiioncpeondaa
