/- Walks: ClosedWithin (impl and spec). -/
import Derived.Test.YtpbpkdkjjbhjoaaW7
import Derived.Deep.LoopGhost
import Derived.WalkMore
namespace Go.Proofs.Ytpbpkdkjjbhjoaa
set_option linter.unusedVariables false
open Go.RowKit
/-- one thing less -/
def rmN (x k : Nat) : Nat := x &&& (18446744073709551615 - 2 ^ k)
theorem rmN_bit {x k j : Nat} (hx : x < 128) (hk : k ≤ 7) : (rmN x k).testBit j = true ↔ x.testBit j = true ∧ j ≠ k := by
  unfold rmN
  have h2 := two_le hk
  rw [Nat.testBit_and, not_bit _ _ (by omega), testBit_two]
  rcases e : x.testBit j with _ | _
  · simp
  · have := bit64 hx e
    simp [this]; omega
theorem rmN_lt {x k : Nat} (hx : x < 128) (hk : k ≤ 7) (h : x.testBit k = true) : rmN x k < x := by
  have h1 : sub (rmN x k) x := fun j hj => ((rmN_bit hx hk).1 hj).1
  have h2 := sub_le h1
  rcases Nat.lt_or_ge (rmN x k) x with h3 | h3
  · exact h3
  · exfalso
    have e : rmN x k = x := by omega
    have := (rmN_bit (j := k) hx hk).1 (by rw [e]; exact h)
    exact this.2 rfl
/-- what holds at the outer loop's head -/
def Wi (f : List Nat) (m x : Nat) : Prop := x < 2 ^ f.length ∧ sub (withinN f m) x ∧ sub x m
theorem Wi.next {f : List Nat} {m x k : Nat} (hf : MapN f) (hk : k < f.length) (h : Wi f m x) (h2 : x.testBit (nx f k) = false) : Wi f m (rmN x k) := by
  have h7 := hf.le7
  have hx : x < 128 := by have := h.1; have := (two_le h7).2; omega
  have hs : sub (rmN x k) x := fun j hj => ((rmN_bit hx (by omega)).1 hj).1
  refine ⟨by have := sub_le hs; have := h.1; omega, fun j hj => (rmN_bit hx (by omega)).2 ⟨h.2.1 j hj, fun e => ?_⟩, sub_trans hs h.2.2⟩
  subst e
  have := h.2.1 _ (closed_iff.1 (withinN_closed hf m) _ hk hj)
  rw [h2] at this; cases this
theorem Wi.done {f : List Nat} {m x : Nat} (hf : MapN f) (h : Wi f m x) (hc : ∀ j, j < f.length → x.testBit j = true → x.testBit (nx f j) = true) : x = withinN f m :=
  sub_antisymm (withinN_greatest hf h.1 h.2.2 (closed_iff.2 hc)) h.2.1
set_option maxHeartbeats 800000 in
theorem closedWithin_ok (A : Option Addr) (c m : Nat) (f : List Nat) (w : World) (h : Rd w w.heap.size A f.length c (ints f)) (hf : MapN f) (hm : m < 2 ^ f.length) :
    Calls Try.prog 22 #[.slice A f.length c, .int .i64 m] w fun e w' => e = .returned (.int .i64 (withinN f m : Int)) ∧ w = w' := by
  have hs := setOk_ints hf hm
  have hWi : Wi f m m := ⟨hm, withinN_sub hf m, sub_refl m⟩
  have h7 := hf.le7
  have h27 := (two_le h7).2
  go_enter Try.func22, Try.ntmps22
  go_wp2_with fail
  go_step3
  go_wp2_with (go_at_call 16; refine (setOk_c _ _ _ _ _ _ h).mono ?_; rintro e w' ⟨rfl, rfl⟩)
  go_step3
  go_wp2_with fail
  go_loopg [1] m (fun gk t wr => ∃ x : Nat, t = .int .i64 x ∧ x ≤ gk ∧ Wi f m x ∧ wr = w)
  case atStart => exact ⟨m, rfl, Nat.le_refl _, hWi, rfl⟩
  case round =>
    obtain ⟨x, rfl, hxg, hx, rfl⟩ := hrel
    have hx7 : x < 128 := by have := hx.1; omega
    have HX := Lib.hid hx
    clear hx hWi
    go_wp2_with fail
    go_loopg [1, 13] f.length (fun gj t i wr' => ∃ k : Nat, t = .int .i64 x ∧ i = .int .i64 k ∧ k ≤ f.length ∧ f.length ≤ gj + k ∧ (∀ j, j < k → x.testBit j = true → x.testBit (nx f j) = true) ∧ wr' = wr)
    case atStart => exact ⟨0, rfl, rfl, Nat.zero_le _, by omega, fun j hj => absurd hj (Nat.not_lt_zero _), rfl⟩
    case round =>
      obtain ⟨k, rfl, rfl, hk, hkg, hall, rfl⟩ := hrel
      have HA := Lib.hid hall
      clear hall
      by_cases hlt : k < f.length
      · obtain ⟨b, off, rfl, hb, hcell0⟩ := h.at_ hlt
        have hcell : wr.cell? ⟨b, off + k, none⟩ = some (.int .i64 ((nx f k : Nat) : Int)) := by rw [hcell0, gI_ints]
        clear hcell0
        have hnk := hf.has k hlt
        have hk7 : k ≤ 7 := by omega
        have hn7 : nx f k ≤ 7 := by omega
        rcases hb1 : x.testBit k with _ | _
        · have H1 := Lib.hid hb1
          go_wp2_with fail
          refine (inSet_c x k _ hx7 hk7).mono ?_
          rintro e w' ⟨rfl, rfl⟩
          go_wp2_with fail
          go_roundg (f.length - (k + 1))
          case measure => omega
          case rel => exact ⟨k + 1, rfl, by go_num, by omega, by omega, fun j hj hjb => by
            rcases Nat.lt_or_ge j k with h' | h'
            · exact HA.out j h' hjb
            · obtain rfl : j = k := by omega
              exact absurd hjb (by rw [H1.out]; simp), rfl⟩
        · rcases hb2 : x.testBit (nx f k) with _ | _
          · have H1 := Lib.hid hb1
            have H2 := Lib.hid hb2
            have h2 := two_le (k := k) (by omega)
            have hi1 : (1 : Int) ≤ 2 ^ k := by rw [castPow]; omega
            have hi2 : (2 : Int) ^ k ≤ 128 := by rw [castPow]; omega
            have han : bits .andNot .i64 (x : Int) (2 ^ k) = ((rmN x k : Nat) : Int) := by
              rw [castPow]; exact bits_andNot _ _ (by omega) (by omega)
            clear h2
            go_wp2_with fail
            refine (inSet_c x k _ hx7 hk7).mono ?_
            rintro e w' ⟨rfl, rfl⟩
            go_wp2_with fail
            refine (inSet_c x (nx f k) _ hx7 hn7).mono ?_
            rintro e w' ⟨rfl, rfl⟩
            go_wp2_with fail
            go_roundg (rmN x k)
            case measure => have := rmN_lt hx7 (k := k) (by omega) H1.out; omega
            case rel => exact ⟨rmN x k, rfl, Nat.le_refl _, HX.out.next hf hlt H2.out, rfl⟩
          · have H1 := Lib.hid hb1
            have H2 := Lib.hid hb2
            go_wp2_with fail
            refine (inSet_c x k _ hx7 hk7).mono ?_
            rintro e w' ⟨rfl, rfl⟩
            go_wp2_with fail
            refine (inSet_c x (nx f k) _ hx7 hn7).mono ?_
            rintro e w' ⟨rfl, rfl⟩
            go_wp2_with fail
            go_roundg (f.length - (k + 1))
            case measure => omega
            case rel => exact ⟨k + 1, rfl, by go_num, by omega, by omega, fun j hj hjb => by
              rcases Nat.lt_or_ge j k with h' | h'
              · exact HA.out j h' hjb
              · obtain rfl : j = k := by omega
                exact H2.out, rfl⟩
      · go_wp2
        first | rw [Exit.noGoto_ret] | skip
        go_ret
        exact ⟨intEnd (by rw [← HX.out.done hf (fun j hj => HA.out j (by omega))]), rfl⟩

def withinI (xs : List Int) (s : Int) : Int := if setOk xs s then (withinN (toN xs) s.toNat : Int) else -1
theorem withinI_ok {f : List Nat} {m : Nat} (hf : MapN f) (hm : m < 2 ^ f.length) : withinI (ints f) (m : Int) = (withinN f m : Int) := by
  unfold withinI; rw [if_pos (setOk_ints hf hm), toN_ints]; simp
theorem withinI_no {xs : List Int} {s : Int} (h : setOk xs s = false) : withinI xs s = -1 := by unfold withinI; rw [h]; simp

set_option maxHeartbeats 400000 in
theorem closedWithin_c (A : Option Addr) (n c : Nat) (xs : List Int) (s : Int) (w : World) (h : Rd w w.heap.size A n c xs) :
    Calls Try.prog 22 #[.slice A n c, .int .i64 s] w fun e w' => e = .returned (.int .i64 (withinI xs s)) ∧ w = w' := by
  rcases hs : setOk xs s with _ | _
  · have HS := Lib.hid (withinI_no hs)
    go_enter Try.func22, Try.ntmps22
    go_wp2_with fail
    go_step3
    go_wp2_with (go_at_call 16; refine (setOk_c _ _ _ _ _ _ h).mono ?_; rintro e w' ⟨rfl, rfl⟩)
    first | rw [Exit.noGoto_ret] | skip
    go_ret
    exact ⟨intEnd HS.out.symm, rfl⟩
  · obtain ⟨f, m, rfl, rfl, hf, hm⟩ := setOk_ex hs
    obtain rfl : f.length = n := by rw [← h.len, ints_len]
    rw [withinI_ok hf hm]
    exact closedWithin_ok A c m f w h hf hm

/-! ### the reference's -/
def Gd (f : List Nat) (m k i q : Nat) : Prop := (q = 1 ∧ ∀ a, a < i → m.testBit (it f a k) = true) ∨ (q = 0 ∧ ∃ a, a < i ∧ m.testBit (it f a k) = false)
theorem Gd.le {f : List Nat} {m k i q : Nat} (h : Gd f m k i q) : q ≤ 1 := by rcases h with ⟨e, _⟩ | ⟨e, _⟩ <;> omega
theorem Gd.yes {f : List Nat} {m k i q : Nat} (h : Gd f m k i q) (hb : m.testBit (it f i k) = true) : Gd f m k (i + 1) q := by
  rcases h with ⟨e, ha⟩ | ⟨e, a, hlt, ha⟩
  · refine .inl ⟨e, fun a hlt => ?_⟩
    rcases Nat.lt_or_ge a i with h' | h'
    · exact ha a h'
    · obtain rfl : a = i := by omega
      exact hb
  · exact .inr ⟨e, a, by omega, ha⟩
theorem Gd.no {f : List Nat} {m k i : Nat} (hb : m.testBit (it f i k) = false) : Gd f m k (i + 1) 0 := .inr ⟨rfl, i, by omega, hb⟩
theorem Gd.done {f : List Nat} {m k q : Nat} (h : Gd f m k (wl f k) q) : q = if inWay f m k then 1 else 0 := by
  rcases h with ⟨e, ha⟩ | ⟨e, a, hlt, ha⟩
  · have : inWay f m k = true := by
      unfold inWay; rw [List.all_eq_true]; intro x hx
      obtain ⟨j, hj, rfl⟩ := mem_orb.1 hx
      exact ha j hj
    rw [this]; simpa using e
  · have : inWay f m k = false := by
      rcases e2 : inWay f m k with _ | _
      · rfl
      · unfold inWay at e2; rw [List.all_eq_true] at e2
        have := e2 _ (mem_orb.2 ⟨a, hlt, rfl⟩)
        rw [ha] at this; cases this
    rw [this]; simpa using e
theorem setK_add (p : Nat → Bool) (k : Nat) : setK p (k + 1) = setK p k + (if p k then 1 else 0) * 2 ^ k := by
  rw [setK]
  split
  · have := setK_lt p k
    have e := Nat.two_pow_add_eq_or_of_lt this 1
    rw [Nat.mul_one] at e
    rw [Nat.or_comm, Nat.one_mul, Nat.add_comm, e]
  · simp
theorem nx_orb {f : List Nat} {k i L : Nat} (h : i < L) : nx (orb f k L) i = it f i k := by
  rw [nx_get (by rw [orb_len]; exact h), orb_get]
theorem way_len (f : List Nat) (k : Nat) : (way f k).length = wl f k := orb_len _ _ _

set_option maxHeartbeats 800000 in
theorem sClosedWithin_ok (A : Option Addr) (c m : Nat) (f : List Nat) (w : World) (h : Rd w w.heap.size A f.length c (ints f)) (hf : MapN f) (hm : m < 2 ^ f.length) :
    Calls Try.prog 20 #[.slice A f.length c, .int .i64 m] w fun e w' => e = .returned (.int .i64 (withinN f m : Int)) ∧ Below w.heap.size w w' := by
  have hs := setOk_ints hf hm
  have h7 := hf.le7
  have h27 := (two_le h7).2
  have hm7 : m < 128 := by omega
  go_enter Try.func20, Try.ntmps20
  go_wp2_with (go_at_call 17; refine (sSetOk_c _ _ _ _ _ _ h).mono ?_; rintro e w' ⟨rfl, rfl⟩)
  go_loopw [5, 6] (fun o i wr => ∃ k : Nat, k ≤ f.length ∧ i = .int .i64 k ∧ o = .int .i64 ((setK (inWay f m) k : Nat) : Int) ∧ Below w.heap.size w wr) (fun o i _ => f.length - (intOf i).toNat)
  case atStart => exact ⟨0, Nat.zero_le _, rfl, rfl, Below.refl _ _⟩
  case round =>
    obtain ⟨k, hk, rfl, rfl, hbw⟩ := hrel
    by_cases hlt : k < f.length
    · have hR := h.up hbw
      have hsl := setK_lt (inWay f m) k
      have hk7 : k < 7 := by omega
      have h2 := two_le (k := k) (by omega)
      have hi1 : (1 : Int) ≤ 2 ^ k := by rw [castPow]; omega
      have hi2 : (2 : Int) ^ k ≤ 128 := by rw [castPow]; omega
      have hs7 : setK (inWay f m) k < 128 := by omega
      have HK := Lib.hid (setK_add (inWay f m) k)
      have HB := Lib.hid hbw
      clear h2 hsl hbw
      go_wp2_with fail
      refine (sWayFrom_ok _ _ f k _ hR hf hlt).mono ?_
      rintro e w1 ⟨v, rfl, hov, hb1⟩
      obtain ⟨A', c', rfl, how⟩ := hov.form
      have hlen : Hid ((ints (way f k)).length = wl f k) := by unfold Hid; rw [ints_len, way_len]
      rw [hlen.out] at how ⊢
      have hrd := how.rd
      have hwl := wl_le hf hlt
      have hc1 := hrd.cap
      have hc2 := hrd.max
      unfold maxLen at hc2
      have HB1 := Lib.hid hb1
      clear hov how hb1
      go_wp2_with fail
      go_loop [8, 9] (fun g j => ∃ i q : Nat, i ≤ wl f k ∧ j = .int .i64 i ∧ g = .int .i64 q ∧ Gd f m k i q) (fun g j => wl f k - (intOf j).toNat)
      case atStart => exact ⟨0, 1, Nat.zero_le _, rfl, rfl, .inl ⟨rfl, fun a ha => absurd ha (Nat.not_lt_zero _)⟩⟩
      case round =>
        obtain ⟨i, q, hi, rfl, rfl, hg⟩ := hrel
        have HG := Lib.hid hg
        have hq1 := hg.le
        clear hg
        by_cases hil : i < wl f k
        · obtain ⟨b, off, rfl, hb, hcell0⟩ := hrd.at_ hil
          have hcell : w1.cell? ⟨b, off + i, none⟩ = some (.int .i64 ((it f i k : Nat) : Int)) := by rw [hcell0, gI_ints, way, nx_orb hil]
          clear hcell0
          have hx := it_lt hf hlt i
          have hob := even_bit m (it f i k)
          have hsr := shr_bit m (it f i k)
          rcases hbt : m.testBit (it f i k) with _ | _
          · have HT := Lib.hid hbt
            go_wp2
            go_round
            case rel => exact ⟨i + 1, 0, by omega, by go_num, rfl, Gd.no HT.out⟩
            case measure => simp [intOf]; omega
          · have HT := Lib.hid hbt
            go_wp2
            go_round
            case rel => exact ⟨i + 1, q, by omega, by go_num, rfl, HG.out.yes HT.out⟩
            case measure => simp [intOf]; omega
        · obtain rfl : i = wl f k := by omega
          have hqd : Hid (q = if inWay f m k then 1 else 0) := Gd.done HG.out
          rcases Nat.eq_zero_or_pos q with h0 | h0
          · subst h0
            go_wp2
            go_roundw
            case rel => exact ⟨k + 1, by omega, by go_num, by rw [HK.out, ← hqd.out]; simp, HB.out.trans (HB1.out.mono HB.out.size)⟩
            case measure => simp [intOf]; omega
          · obtain rfl : q = 1 := by omega
            go_wp2
            go_roundw
            case rel => exact ⟨k + 1, by omega, by go_num, by rw [HK.out, ← hqd.out]; simp, HB.out.trans (HB1.out.mono HB.out.size)⟩
            case measure => simp [intOf]; omega
    · obtain rfl : k = f.length := by omega
      go_wp2
      go_ret
      exact ⟨rfl, hbw⟩

set_option maxHeartbeats 400000 in
theorem sClosedWithin_c (A : Option Addr) (n c : Nat) (xs : List Int) (s : Int) (w : World) (h : Rd w w.heap.size A n c xs) :
    Calls Try.prog 20 #[.slice A n c, .int .i64 s] w fun e w' => e = .returned (.int .i64 (withinI xs s)) ∧ Below w.heap.size w w' := by
  rcases hs : setOk xs s with _ | _
  · have HS := Lib.hid (withinI_no hs)
    go_enter Try.func20, Try.ntmps20
    go_wp2_with (go_at_call 17; refine (sSetOk_c _ _ _ _ _ _ h).mono ?_; rintro e w' ⟨rfl, rfl⟩)
    go_ret
    exact ⟨intEnd HS.out.symm, Below.refl _ _⟩
  · obtain ⟨f, m, rfl, rfl, hf, hm⟩ := setOk_ex hs
    obtain rfl : f.length = n := by rw [← h.len, ints_len]
    rw [withinI_ok hf hm]
    exact sClosedWithin_ok A c m f w h hf hm
end Go.Proofs.Ytpbpkdkjjbhjoaa
