/- Walks: slices.Index at []int, WayFrom, TailOf, OnLoop (impl); the law FnLimitOf (walk). -/
import Derived.Test.YtlbiioncpeondaaW30
import Derived.Test.YtlbiioncpeondaaW19
namespace Go.Proofs.Ytlbiioncpeondaa
set_option linter.unusedVariables false
open Go.RowKit

def Idx (xs : List Int) (n : Nat) (v : Int) (w : World) (e : Ending) (w' : World) : Prop :=
  w = w' ∧ ((e = .returned (.int .i64 (-1)) ∧ ∀ j, j < n → gI xs j ≠ v) ∨ ∃ j : Nat, j < n ∧ e = .returned (.int .i64 j) ∧ gI xs j = v ∧ ∀ i, i < j → gI xs i ≠ v)
set_option maxHeartbeats 400000 in
theorem index_c (A : Option Addr) (n c : Nat) (xs : List Int) (v : Int) (w : World) (h : Rd w w.heap.size A n c xs) :
    Calls Try.prog 91 #[.slice A n c, .int .i64 v] w (Idx xs n v w) := by
  have hm := h.max
  have hc := h.cap
  unfold maxLen at hm
  go_enter Try.func91, Try.ntmps91
  go_wp2_with fail
  go_loopw [8] (fun i wr => ∃ k : Nat, k ≤ n ∧ i = .int .i64 k ∧ (∀ j, j < k → gI xs j ≠ v) ∧ wr = w) (fun i _ => n - (intOf i).toNat)
  case atStart => exact ⟨0, Nat.zero_le _, rfl, fun j hj => absurd hj (Nat.not_lt_zero _), rfl⟩
  case round =>
    obtain ⟨k, hk, rfl, hall, rfl⟩ := hrel
    have HA := Lib.hid hall
    clear hall
    by_cases hlt : k < n
    · obtain ⟨b, off, rfl, hb, hcell⟩ := h.at_ hlt
      by_cases he : gI xs k = v
      · have hq : (v == gI xs k) = true := by rw [he]; simp
        have HE := Lib.hid he
        clear he
        go_wp2_with fail
        go_ret
        exact ⟨rfl, .inr ⟨k, hlt, rfl, HE.out, HA.out⟩⟩
      · have hq : (v == gI xs k) = false := by rw [beq_eq_false_iff_ne]; exact fun e => he e.symm
        have HE := Lib.hid he
        clear he
        go_wp2_with fail
        go_roundw
        case rel => exact ⟨k + 1, by omega, by go_num, fun j hj => by
          rcases Nat.lt_or_ge j k with h' | h'
          · exact HA.out j h'
          · obtain rfl : j = k := by omega
            exact HE.out, trivial⟩
        case measure => simp [intOf]; omega
    · obtain rfl : k = n := by omega
      go_wp2_with fail
      go_ret
      exact ⟨rfl, .inl ⟨rfl, HA.out⟩⟩

def tailI (xs : List Int) (t : Int) : Int := if atOk xs t then (tl (toN xs) t.toNat : Int) else -1
theorem tailI_ok {f : List Nat} {k : Nat} (hf : MapN f) (hk : k < f.length) : tailI (ints f) (k : Int) = (tl f k : Int) := by
  unfold tailI; rw [if_pos (atOk_ints hf hk), toN_ints]; simp
theorem tailI_no {xs : List Int} {t : Int} (h : atOk xs t = false) : tailI xs t = -1 := by unfold tailI; rw [h]; simp
def Way (xs : List Int) (t : Int) (w : World) (e : Ending) (w' : World) : Prop := ∃ v, e = .returned v ∧ OwnV w' w.heap.size v (wayI xs t) ∧ Below w.heap.size w w'
set_option maxHeartbeats 400000 in
theorem wayFrom_c (A : Option Addr) (n c : Nat) (xs : List Int) (t : Int) (w : World) (h : Rd w w.heap.size A n c xs) :
    Calls Try.prog 84 #[.slice A n c, .int .i64 t] w (Way xs t w) := by
  rcases hs : atOk xs t with _ | _
  · have HW := Lib.hid (wayI_no hs)
    go_enter Try.func84, Try.ntmps84
    go_wp2_with (go_at_call 89; refine (thingOk_c _ _ _ _ _ _ h).mono ?_; rintro e w' ⟨rfl, rfl⟩)
    go_ret
    exact ⟨_, rfl, by rw [HW.out]; exact OwnV.nil_ _ _, Below.refl _ _⟩
  · obtain ⟨f, k, rfl, rfl, hf, hk⟩ := atOk_ex hs
    obtain rfl : n = f.length := by rw [← h.len, ints_len]
    have HW := Lib.hid (wayI_ok hf hk)
    go_enter Try.func84, Try.ntmps84
    go_wp2_with fail
    refine (thingOk_c _ _ _ _ _ _ h).mono ?_
    rintro e w' ⟨rfl, rfl⟩
    go_wp2_with fail
    refine (walked_ok _ _ f k _ h hf hk).mono ?_
    rintro e w1 ⟨v, rfl, hO, hb⟩
    go_wp2_with fail
    go_ret
    exact ⟨_, rfl, by rw [HW.out]; exact hO, hb⟩
set_option maxHeartbeats 400000 in
theorem tailOf_c (A : Option Addr) (n c : Nat) (xs : List Int) (t : Int) (w : World) (h : Rd w w.heap.size A n c xs) :
    Calls Try.prog 64 #[.slice A n c, .int .i64 t] w fun e w' => e = .returned (.int .i64 (tailI xs t)) ∧ Below w.heap.size w w' := by
  rcases hs : atOk xs t with _ | _
  · have HW := Lib.hid (tailI_no hs)
    go_enter Try.func64, Try.ntmps64
    go_wp2_with (go_at_call 89; refine (thingOk_c _ _ _ _ _ _ h).mono ?_; rintro e w' ⟨rfl, rfl⟩)
    go_ret
    exact ⟨intEnd HW.out.symm, Below.refl _ _⟩
  · obtain ⟨f, k, rfl, rfl, hf, hk⟩ := atOk_ex hs
    obtain rfl : n = f.length := by rw [← h.len, ints_len]
    have HW := Lib.hid (tailI_ok hf hk)
    have HT := Lib.hid (tl_is hf hk)
    have HU := Lib.hid (wl_isWay hf hk)
    go_enter Try.func64, Try.ntmps64
    go_wp2_with fail
    refine (thingOk_c _ _ _ _ _ _ h).mono ?_
    rintro e w' ⟨rfl, rfl⟩
    go_wp2_with fail
    refine (walked_ok _ _ f k _ h hf hk).mono ?_
    rintro e w1 ⟨v, rfl, hO, hb⟩
    obtain ⟨A1, c1, rfl, hO1⟩ := hO.form
    have hlw : (ints (way f k)).length = wl f k := by rw [ints_len, way, orb_len]
    have hg : ∀ j, j < wl f k → gI (ints (way f k)) j = (it f j k : Int) := fun j hj => by
      rw [gI_ints, nx_get (by rw [way, orb_len]; exact hj)]; simp only [way]; rw [orb_get]
    have HG := Lib.hid hg
    have HL := Lib.hid hlw
    clear hg hlw
    go_wp2_with fail
    refine (index_c _ _ _ _ _ _ hO1.rd).mono ?_
    rintro e w2 ⟨rfl, hi⟩
    obtain ⟨rfl, hno⟩ | ⟨j, hj, rfl, hjv, hjm⟩ := hi
    · exfalso
      rw [HL.out] at hno
      have := hno _ HT.out.1
      rw [HG.out _ HT.out.1, HT.out.2] at this
      exact this rfl
    · rw [HL.out] at hj
      have e1 : it f j k = it f (wl f k) k := by rw [HG.out j hj] at hjv; omega
      have e2 := tl_eq HU.out hj e1
      go_wp2_with fail
      go_ret
      exact ⟨intEnd (by rw [HW.out, e2]), hb⟩
set_option maxHeartbeats 400000 in
theorem onLoop_c (A : Option Addr) (n c : Nat) (xs : List Int) (t : Int) (w : World) (h : Rd w w.heap.size A n c xs) :
    Calls Try.prog 23 #[.slice A n c, .int .i64 t] w fun e w' => e = .returned (.bool (tailI xs t == 0)) ∧ Below w.heap.size w w' := by
  go_enter Try.func23, Try.ntmps23
  go_wp2_with (go_at_call 64; refine (tailOf_c _ _ _ _ _ _ h).mono ?_; rintro e w' ⟨rfl, hb⟩)
  go_ret
  exact ⟨rfl, hb⟩
end Go.Proofs.Ytlbiioncpeondaa
