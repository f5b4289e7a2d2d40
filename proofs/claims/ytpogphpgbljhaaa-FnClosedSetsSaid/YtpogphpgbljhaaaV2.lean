/- Walks: marks in a row and their reading (laws); ClosedAround, LimitOf (impl and spec). · Walks: WayFrom (spec); ClosedWithin (impl and spec). · Walks: ClosedWithin (impl and spec). · Walks: the exact laws over one number or one truth. Printed by gen_w5.py. -/
import Derived.Outline
import Derived.Deep.LoopGhost
import Derived.WalkMore
import Derived.Test.YtpogphpgbljhaaaV1
import Derived.Test.YtpogphpgbljhaaaQ
import Derived.Test.YtpogphpgbljhaaaP
namespace Go.Proofs.Ytpogphpgbljhaaa
set_option linter.unusedVariables false
open Go.RowKit

set_option maxHeartbeats 400000 in
theorem markIntS_c (A : Option Addr) (n c k0 lo hi : Nat) (xs : List Int) (w : World) (h : OwnIn w lo hi A n c xs) (hk0 : k0 + n ≤ 1000000000000) :
    Calls Try.prog 11 #[.slice A n c, .int .i64 k0] w fun e w' => e = .returned (.int .i64 ((k0 + n : Nat) : Int)) ∧ OwnIn w' lo hi A n c (marks k0 n) ∧ Chg lo hi w w' := by
  have HL := Lib.hid h.len
  go_enter Try.func11, Try.ntmps11
  go_wp2
  go_loopw [1, 5] (fun k i wr => ∃ j : Nat, j ≤ n ∧ i = .int .i64 j ∧ k = .int .i64 ((k0 : Int) + (j : Int)) ∧ OwnIn wr lo hi A n c (marked xs k0 j) ∧ Chg lo hi w wr) (fun k i _ => n - (intOf i).toNat)
  case atStart => exact ⟨0, Nat.zero_le _, rfl, by simp, by rw [marked_zero]; exact h, Chg.refl _ _ _⟩
  case round =>
    obtain ⟨j, hj, rfl, rfl, ho, hc⟩ := hrel
    by_cases hlt : j < n
    · obtain ⟨g, rfl⟩ := ho.some_ (by omega)
      have hcell := ho.cell hlt
      have hfz := ho.frozen j
      have hst := Lib.hid (ho.store j ((k0 : Int) + (j : Int)))
      have HC := Lib.hid hc
      clear ho hc
      go_wp2
      go_roundw
      case rel => exact ⟨j + 1, by omega, by go_num, by go_num, by
        have e := marked_succ xs k0 j (by rw [HL.out]; exact hlt)
        rw [← e]
        have := hst.out.1
        rwa [← Int.natCast_add] at this, HC.out.trans (by have := hst.out.2; exact this)⟩
      case measure => simp [intOf]; omega
    · obtain rfl : j = n := by omega
      have HO := Lib.hid ho
      clear ho
      go_wp2
      go_ret
      exact ⟨intEnd (by omega), by rw [← marked_all xs k0 j HL.out]; exact HO.out, hc⟩

set_option maxHeartbeats 400000 in
theorem heldIntS_c (A : Option Addr) (n c k0 : Nat) (w : World) (h : Rd w w.heap.size A n c (marks k0 n)) (hk0 : k0 + n ≤ 1000000000000) :
    Calls Try.prog 12 #[.slice A n c, .int .i64 k0] w fun e w' => e = .returned (.int .i64 ((k0 + n : Nat) : Int)) ∧ w = w' := by
  go_enter Try.func12, Try.ntmps12
  go_wp2
  go_loop [1, 5] (fun k i => ∃ j : Nat, j ≤ n ∧ i = .int .i64 j ∧ k = .int .i64 ((k0 : Int) + (j : Int))) (fun k i => n - (intOf i).toNat)
  case atStart => exact ⟨0, Nat.zero_le _, rfl, by simp⟩
  case round =>
    obtain ⟨j, hj, rfl, rfl⟩ := hrel
    by_cases hlt : j < n
    · obtain ⟨b, off, rfl, hb, hcell0⟩ := h.at_ hlt
      have hcell : w.cell? ⟨b, off + j, none⟩ = some (.int .i64 ((k0 : Int) + (j : Int))) := by rw [hcell0, gI_marks hlt, Int.natCast_add]
      clear hcell0
      go_wp2
      go_round
      case rel => exact ⟨j + 1, by omega, by go_num, by go_num⟩
      case measure => simp [intOf]; omega
    · obtain rfl : j = n := by omega
      go_wp2
      go_ret
      exact ⟨intEnd (by omega), rfl⟩

/-! ### ClosedAround -/
def aroundI (xs : List Int) (s : Int) : Int := if setOk xs s then (aroundN (toN xs) s.toNat : Int) else -1
theorem aroundI_ok {f : List Nat} {m : Nat} (hf : MapN f) (hm : m < 2 ^ f.length) : aroundI (ints f) (m : Int) = (aroundN f m : Int) := by
  unfold aroundI; rw [if_pos (setOk_ints hf hm), toN_ints]; simp
theorem aroundI_no {xs : List Int} {s : Int} (h : setOk xs s = false) : aroundI xs s = -1 := by unfold aroundI; rw [h]; simp
/-- what holds at each round's head -/
def Ar (f : List Nat) (m x : Nat) : Prop := x < 2 ^ f.length ∧ sub m x ∧ sub x (aroundN f m)
theorem Ar.next {f : List Nat} {m x : Nat} (hf : MapN f) (h : Ar f m x) : Ar f m (x ||| led f x) :=
  ⟨or_lt h.1 (led_lt hf x), sub_trans h.2.1 (sub_or_left _ _), or_sub h.2.2 (sub_trans (led_mono h.2.2) (aroundN_closed hf m))⟩
theorem Ar.done {f : List Nat} {m x : Nat} (hf : MapN f) (h : Ar f m x) (hc : closedN f x = true) : x = aroundN f m :=
  sub_antisymm h.2.2 (aroundN_least hf h.2.1 (closedN_iff.1 hc))
theorem closed_not {f : List Nat} {x : Nat} (hc : closedN f x = false) : ¬ sub (led f x) x := fun h => by
  have := closedN_iff.2 h
  unfold closedN at hc
  rw [hc] at this; cases this

set_option maxHeartbeats 400000 in
theorem closedAround_c (A : Option Addr) (n c : Nat) (xs : List Int) (s : Int) (w : World) (h : Rd w w.heap.size A n c xs) :
    Calls Try.prog 19 #[.slice A n c, .int .i64 s] w fun e w' => e = .returned (.int .i64 (aroundI xs s)) ∧ w = w' := by
  rcases hs : setOk xs s with _ | _
  · have HS := Lib.hid (aroundI_no hs)
    go_enter Try.func19, Try.ntmps19
    go_wp2_with (go_at_call 35; refine (setOk_c _ _ _ _ _ _ h).mono ?_; rintro e w' ⟨rfl, rfl⟩)
    go_ret
    exact ⟨intEnd HS.out.symm, rfl⟩
  · obtain ⟨f, m, rfl, rfl, hf, hm⟩ := setOk_ex hs
    have HS := Lib.hid (aroundI_ok hf hm)
    have hAr : Ar f m m := ⟨hm, sub_refl m, aroundN_has hf hm⟩
    have h7 := (two_le hf.le7).2
    go_enter Try.func19, Try.ntmps19
    go_wp2_with (go_at_call 35; refine (setOk_c _ _ _ _ _ _ h).mono ?_; rintro e w' ⟨rfl, rfl⟩)
    go_loop [1] (fun t => ∃ x : Nat, t = .int .i64 x ∧ Ar f m x) (fun t => 128 - (intOf t).toNat)
    case atStart => exact ⟨m, rfl, hAr⟩
    case round =>
      obtain ⟨x, rfl, hx⟩ := hrel
      have hq := closedI_ok (m := x) hf hx.1
      have hx7 : x < 128 := by have := hx.1; omega
      rcases hc : closedN f x with _ | _
      · have hl := ledI_ok (m := x) hf hx.1
        have hl7 := led_lt128 hf x
        have hor := bits_or x (led f x) (by omega) (by omega)
        have HX := Lib.hid (hx.next hf)
        have HG := Lib.hid (grow_of_not (closed_not hc))
        clear hx
        go_wp2_with (first
          | (go_at_call 17; refine (closedOk_c _ _ _ _ _ _ h).mono ?_; rintro e w' ⟨rfl, rfl⟩)
          | (go_at_call 38; refine (ledTo_c _ _ _ _ _ _ h).mono ?_; rintro e w' ⟨rfl, rfl⟩))
        go_round
        case rel => exact ⟨_, rfl, HX.out⟩
        case measure => have := HG.out; simp [intOf]; omega
      · have HX := Lib.hid (hx.done hf hc)
        go_wp2_with (go_at_call 17; refine (closedOk_c _ _ _ _ _ _ h).mono ?_; rintro e w' ⟨rfl, rfl⟩)
        go_ret
        exact ⟨intEnd (by rw [HS.out, ← HX.out]), rfl⟩

set_option maxHeartbeats 400000 in
theorem sClosedAround_c (A : Option Addr) (n c : Nat) (xs : List Int) (s : Int) (w : World) (h : Rd w w.heap.size A n c xs) :
    Calls Try.prog 20 #[.slice A n c, .int .i64 s] w fun e w' => e = .returned (.int .i64 (aroundI xs s)) ∧ w = w' := by
  rcases hs : setOk xs s with _ | _
  · have HS := Lib.hid (aroundI_no hs)
    go_enter Try.func20, Try.ntmps20
    go_wp2_with (go_at_call 37; refine (sSetOk_c _ _ _ _ _ _ h).mono ?_; rintro e w' ⟨rfl, rfl⟩)
    go_ret
    exact ⟨intEnd HS.out.symm, rfl⟩
  · obtain ⟨f, m, rfl, rfl, hf, hm⟩ := setOk_ex hs
    have HS := Lib.hid (aroundI_ok hf hm)
    have hAr : Ar f m m := ⟨hm, sub_refl m, aroundN_has hf hm⟩
    have h7 := (two_le hf.le7).2
    go_enter Try.func20, Try.ntmps20
    go_wp2_with (go_at_call 37; refine (sSetOk_c _ _ _ _ _ _ h).mono ?_; rintro e w' ⟨rfl, rfl⟩)
    go_loop [5] (fun t => ∃ x : Nat, t = .int .i64 x ∧ Ar f m x) (fun t => 128 - (intOf t).toNat)
    case atStart => exact ⟨m, rfl, hAr⟩
    case round =>
      obtain ⟨x, rfl, hx⟩ := hrel
      have hq := closedI_ok (m := x) hf hx.1
      have hx7 : x < 128 := by have := hx.1; omega
      rcases hc : closedN f x with _ | _
      · have hl := ledI_ok (m := x) hf hx.1
        have hl7 := led_lt128 hf x
        have hor := bits_or x (led f x) (by omega) (by omega)
        have HX := Lib.hid (hx.next hf)
        have HG := Lib.hid (grow_of_not (closed_not hc))
        clear hx
        go_wp2_with (first
          | (go_at_call 29; refine (sClosedOk_c _ _ _ _ _ _ h).mono ?_; rintro e w' ⟨rfl, rfl⟩)
          | (go_at_call 39; refine (sLedTo_c _ _ _ _ _ _ h).mono ?_; rintro e w' ⟨rfl, rfl⟩))
        go_round
        case rel => exact ⟨_, rfl, HX.out⟩
        case measure => have := HG.out; simp [intOf]; omega
      · have HX := Lib.hid (hx.done hf hc)
        go_wp2_with (go_at_call 29; refine (sClosedOk_c _ _ _ _ _ _ h).mono ?_; rintro e w' ⟨rfl, rfl⟩)
        go_ret
        exact ⟨intEnd (by rw [HS.out, ← HX.out]), rfl⟩

/-! ### LimitOf -/
def limitI (xs : List Int) : Int := if mapOk xs then (limitN (toN xs) : Int) else -1
theorem limitI_ok {f : List Nat} (hf : MapN f) : limitI (ints f) = (limitN f : Int) := by unfold limitI; rw [if_pos (mapOk_ints hf), toN_ints]
theorem limitI_no {xs : List Int} (h : mapOk xs = false) : limitI xs = -1 := by unfold limitI; rw [h]; simp
def Li (f : List Nat) (x : Nat) : Prop := x < 2 ^ f.length ∧ sub (limitN f) x ∧ sub (led f x) x
theorem Li.start {f : List Nat} (hf : MapN f) : Li f (allN f) := ⟨allN_lt f, sub_all.2 (limitN_lt f), sub_all.2 (led_lt hf _)⟩
theorem Li.next {f : List Nat} {x : Nat} (hf : MapN f) (h : Li f x) : Li f (led f x) :=
  ⟨led_lt hf x, by have := led_mono (f := f) h.2.1; rwa [limitN_led hf] at this, led_mono h.2.2⟩
theorem Li.done {f : List Nat} {x : Nat} (hf : MapN f) (h : Li f x) (e : led f x = x) : x = limitN f := limitN_of hf h.1 e h.2.1

end Go.Proofs.Ytpogphpgbljhaaa
namespace Go.Proofs.Ytpogphpgbljhaaa
set_option linter.unusedVariables false
open Go.RowKit

theorem even_bit (m t : Nat) : (((m : Int) / 2 ^ t).tmod 2 == 0) = !m.testBit t := by
  have h := odd_bit m t
  have h0 : (0 : Int) ≤ (m : Int) / 2 ^ t := Int.ediv_nonneg (by omega) (by rw [castPow]; exact Int.natCast_nonneg _)
  rw [Int.tmod_eq_emod_of_nonneg h0] at h ⊢
  rw [← h]
  have := Int.emod_two_eq ((m : Int) / 2 ^ t)
  rcases this with e | e <;> simp [e]
/-- the place is one of the map's -/
def atOk (xs : List Int) (t : Int) : Bool := mapOk xs && hasB xs.length t
def wayI (xs : List Int) (t : Int) : List Int := if atOk xs t then ints (way (toN xs) t.toNat) else []
theorem atOk_ex {xs : List Int} {t : Int} (h : atOk xs t = true) : ∃ f k, xs = ints f ∧ t = ((k : Nat) : Int) ∧ MapN f ∧ k < f.length := by
  unfold atOk at h
  rw [Bool.and_eq_true, hasB_iff] at h
  obtain ⟨h1, h2, h3⟩ := h
  obtain ⟨f, rfl, hf⟩ := mapOk_ex h1
  obtain ⟨k, rfl⟩ := Int.eq_ofNat_of_zero_le h2
  refine ⟨f, k, rfl, rfl, hf, ?_⟩
  rw [ints_len] at h3; omega
theorem atOk_ints {f : List Nat} {k : Nat} (hf : MapN f) (hk : k < f.length) : atOk (ints f) (k : Int) = true := by
  unfold atOk; rw [mapOk_ints hf, Bool.true_and, hasB_iff, ints_len]; omega
theorem wayI_ok {f : List Nat} {k : Nat} (hf : MapN f) (hk : k < f.length) : wayI (ints f) (k : Int) = ints (way f k) := by
  unfold wayI; rw [if_pos (atOk_ints hf hk), toN_ints]; simp
theorem wayI_no {xs : List Int} {t : Int} (h : atOk xs t = false) : wayI xs t = [] := by unfold wayI; rw [h]; simp

set_option maxHeartbeats 800000 in
theorem sWayFrom_ok (A : Option Addr) (c : Nat) (f : List Nat) (k : Nat) (w : World) (h : Rd w w.heap.size A f.length c (ints f)) (hf : MapN f) (hk : k < f.length) :
    Calls Try.prog 21 #[.slice A f.length c, .int .i64 k] w fun e w' => ∃ v, e = .returned v ∧ OwnV w' w.heap.size v (ints (way f k)) ∧ Below w.heap.size w w' := by
  have h7 := hf.le7
  have hin : inB (k : Int) 0 ((f.length : Int) - 1) = true := by rw [inB_iff]; omega
  have hmo := mapOk_ints hf
  go_enter Try.func21, Try.ntmps21
  go_wp2_with fail
  have hB0 : Below w.heap.size w (w.alloc (Obj.cells #[] 3)) := (Below.refl _ _).alloc (Nat.le_refl _) _
  have hO0 := OwnV.made w w.heap.size #[] (Nat.le_refl _) rfl
  generalize w.alloc (Obj.cells #[] 3) = w0 at hB0 hO0 ⊢
  have h0 := h.up hB0
  go_wp2_with (first
    | (go_at_call 28; refine (sMapOk_c _ _ _ _ _ h0).mono ?_; rintro e w' ⟨rfl, rfl⟩)
    | (go_at_call 40; refine (l1In_c _ _ _ _).mono ?_; rintro e w' ⟨rfl, rfl⟩))
  go_loopw [5, 6, 7] (fun o s t wr => ∃ i : Nat, i ≤ f.length ∧ OwnV wr w.heap.size o (ints (orb f k i)) ∧ s = .int .i64 ((seenK f k i : Nat) : Int) ∧ t = .int .i64 ((it f i k : Nat) : Int) ∧ (orb f k i).Nodup ∧ Below w.heap.size w wr) (fun o s t _ => 128 - (intOf s).toNat)
  case atStart => exact ⟨0, Nat.zero_le _, hO0, rfl, rfl, by simp [orb], hB0⟩
  case round =>
    obtain ⟨i, hi, hown, rfl, rfl, hnd, hbw⟩ := hrel
    have hx := it_lt hf hk i
    have hs7 : seenK f k i < 128 := by have := seenK_lt hf hk i; have := (two_le h7).2; omega
    have hob := even_bit (seenK f k i) (it f i k)
    have hsr := shr_bit (seenK f k i) (it f i k)
    have HN := Lib.hid hnd
    clear hnd
    by_cases hb : it f i k ∈ orb f k i
    · have hbt : (seenK f k i).testBit (it f i k) = true := (seenK_bit f k _ i).2 hb
      have HB := Lib.hid hb
      clear hb
      go_wp2
      go_ret
      have hpos : 1 ≤ i := by
        rcases Nat.eq_zero_or_pos i with h | h
        · subst h; have := HB.out; simp [orb] at this
        · exact h
      exact ⟨_, rfl, by rw [way, ← way_done hf hk hpos HN.out HB.out]; exact hown, hbw⟩
    · have hbt : (seenK f k i).testBit (it f i k) = false := by
        rcases e : (seenK f k i).testBit (it f i k) with _ | _
        · rfl
        · exact absurd ((seenK_bit f k _ i).1 e) hb
      obtain ⟨b, off, rfl, hbb, hcell0⟩ := h.at_ hx
      have hcell1 : w.cell? ⟨b, off + it f i k, none⟩ = some (.int .i64 ((nx f (it f i k) : Nat) : Int)) := by rw [hcell0, gI_ints]
      clear hcell0
      have h2 := two_le (k := it f i k) (by omega)
      have hi1 : (1 : Int) ≤ 2 ^ it f i k := by rw [castPow]; omega
      have hi2 : (2 : Int) ^ it f i k ≤ 128 := by rw [castPow]; omega
      have hor : bits .or .i64 ((seenK f k i : Nat) : Int) (2 ^ it f i k) = ((seenK f k i ||| 2 ^ it f i k : Nat) : Int) := by
        rw [castPow]; exact bits_or _ _ (by omega) (by omega)
      have HG := Lib.hid (seenK_grow hb)
      have HD := Lib.hid (orb_nodup_succ HN.out hb)
      have hle := orb_le hf hk HD.out
      have hlen : (ints (orb f k i)).length ≤ 1000000000000 := by rw [ints_len, orb_len]; omega
      have HBW := Lib.hid hbw
      clear h2 hb
      go_wp2_with (at_builtin; go_loud (refine app_int wr _ rfl _ _ rfl w.heap.size _ (ints (orb f k i)) rfl hown rfl hlen hbw.size ?_); intro v' w' hown' hb'; have hcell := (hb'.cell (p := ⟨b, off + it f i k, none⟩) hbb).trans ((HBW.out.cell (p := ⟨b, off + it f i k, none⟩) hbb).trans hcell1))
      go_roundw
      case rel => exact ⟨i + 1, hle, by rw [ints_orb_succ]; exact hown', rfl, rfl, HD.out, hbw.trans hb'⟩
      case measure => have := HG.out; rw [seenK] at this; simp [intOf]; omega
end Go.Proofs.Ytpogphpgbljhaaa
namespace Go.Proofs.Ytpogphpgbljhaaa
set_option linter.unusedVariables false
open Go.RowKit
/-- one thing less -/
def rmN (x k : Nat) : Nat := x &&& (18446744073709551615 - 2 ^ k)
theorem rmN_bit {x k j : Nat} (hx : x < 128) (hk : k ≤ 7) : (rmN x k).testBit j = true ↔ x.testBit j = true ∧ j ≠ k := by
  unfold rmN
  have h2 := two_le hk
  rw [Nat.testBit_and, not_bit _ _ (by omega), testBit_two]
  rcases e : x.testBit j with _ | _
  · simp
  · have := bit64 hx e
    simp [this]; omega
theorem rmN_lt {x k : Nat} (hx : x < 128) (hk : k ≤ 7) (h : x.testBit k = true) : rmN x k < x := by
  have h1 : sub (rmN x k) x := fun j hj => ((rmN_bit hx hk).1 hj).1
  have h2 := sub_le h1
  rcases Nat.lt_or_ge (rmN x k) x with h3 | h3
  · exact h3
  · exfalso
    have e : rmN x k = x := by omega
    have := (rmN_bit (j := k) hx hk).1 (by rw [e]; exact h)
    exact this.2 rfl
/-- what holds at the outer loop's head -/
def Wi (f : List Nat) (m x : Nat) : Prop := x < 2 ^ f.length ∧ sub (withinN f m) x ∧ sub x m
theorem Wi.next {f : List Nat} {m x k : Nat} (hf : MapN f) (hk : k < f.length) (h : Wi f m x) (h2 : x.testBit (nx f k) = false) : Wi f m (rmN x k) := by
  have h7 := hf.le7
  have hx : x < 128 := by have := h.1; have := (two_le h7).2; omega
  have hs : sub (rmN x k) x := fun j hj => ((rmN_bit hx (by omega)).1 hj).1
  refine ⟨by have := sub_le hs; have := h.1; omega, fun j hj => (rmN_bit hx (by omega)).2 ⟨h.2.1 j hj, fun e => ?_⟩, sub_trans hs h.2.2⟩
  subst e
  have := h.2.1 _ (closed_iff.1 (withinN_closed hf m) _ hk hj)
  rw [h2] at this; cases this
theorem Wi.done {f : List Nat} {m x : Nat} (hf : MapN f) (h : Wi f m x) (hc : ∀ j, j < f.length → x.testBit j = true → x.testBit (nx f j) = true) : x = withinN f m :=
  sub_antisymm (withinN_greatest hf h.1 h.2.2 (closed_iff.2 hc)) h.2.1
set_option maxHeartbeats 800000 in
theorem closedWithin_ok (A : Option Addr) (c m : Nat) (f : List Nat) (w : World) (h : Rd w w.heap.size A f.length c (ints f)) (hf : MapN f) (hm : m < 2 ^ f.length) :
    Calls Try.prog 14 #[.slice A f.length c, .int .i64 m] w fun e w' => e = .returned (.int .i64 (withinN f m : Int)) ∧ w = w' := by
  have hs := setOk_ints hf hm
  have hWi : Wi f m m := ⟨hm, withinN_sub hf m, sub_refl m⟩
  have h7 := hf.le7
  have h27 := (two_le h7).2
  go_enter Try.func14, Try.ntmps14
  go_wp2_with fail
  go_step3
  go_wp2_with (go_at_call 35; refine (setOk_c _ _ _ _ _ _ h).mono ?_; rintro e w' ⟨rfl, rfl⟩)
  go_step3
  go_wp2_with fail
  go_loopg [1] m (fun gk t wr => ∃ x : Nat, t = .int .i64 x ∧ x ≤ gk ∧ Wi f m x ∧ wr = w)
  case atStart => exact ⟨m, rfl, Nat.le_refl _, hWi, rfl⟩
  case round =>
    obtain ⟨x, rfl, hxg, hx, rfl⟩ := hrel
    have hx7 : x < 128 := by have := hx.1; omega
    have HX := Lib.hid hx
    clear hx hWi
    go_wp2_with fail
    go_loopg [1, 13] f.length (fun gj t i wr' => ∃ k : Nat, t = .int .i64 x ∧ i = .int .i64 k ∧ k ≤ f.length ∧ f.length ≤ gj + k ∧ (∀ j, j < k → x.testBit j = true → x.testBit (nx f j) = true) ∧ wr' = wr)
    case atStart => exact ⟨0, rfl, rfl, Nat.zero_le _, by omega, fun j hj => absurd hj (Nat.not_lt_zero _), rfl⟩
    case round =>
      obtain ⟨k, rfl, rfl, hk, hkg, hall, rfl⟩ := hrel
      have HA := Lib.hid hall
      clear hall
      by_cases hlt : k < f.length
      · obtain ⟨b, off, rfl, hb, hcell0⟩ := h.at_ hlt
        have hcell : wr.cell? ⟨b, off + k, none⟩ = some (.int .i64 ((nx f k : Nat) : Int)) := by rw [hcell0, gI_ints]
        clear hcell0
        have hnk := hf.has k hlt
        have hk7 : k ≤ 7 := by omega
        have hn7 : nx f k ≤ 7 := by omega
        rcases hb1 : x.testBit k with _ | _
        · have H1 := Lib.hid hb1
          go_wp2_with fail
          refine (inSet_c x k _ hx7 hk7).mono ?_
          rintro e w' ⟨rfl, rfl⟩
          go_wp2_with fail
          go_roundg (f.length - (k + 1))
          case measure => omega
          case rel => exact ⟨k + 1, rfl, by go_num, by omega, by omega, fun j hj hjb => by
            rcases Nat.lt_or_ge j k with h' | h'
            · exact HA.out j h' hjb
            · obtain rfl : j = k := by omega
              exact absurd hjb (by rw [H1.out]; simp), rfl⟩
        · rcases hb2 : x.testBit (nx f k) with _ | _
          · have H1 := Lib.hid hb1
            have H2 := Lib.hid hb2
            have h2 := two_le (k := k) (by omega)
            have hi1 : (1 : Int) ≤ 2 ^ k := by rw [castPow]; omega
            have hi2 : (2 : Int) ^ k ≤ 128 := by rw [castPow]; omega
            have han : bits .andNot .i64 (x : Int) (2 ^ k) = ((rmN x k : Nat) : Int) := by
              rw [castPow]; exact bits_andNot _ _ (by omega) (by omega)
            clear h2
            go_wp2_with fail
            refine (inSet_c x k _ hx7 hk7).mono ?_
            rintro e w' ⟨rfl, rfl⟩
            go_wp2_with fail
            refine (inSet_c x (nx f k) _ hx7 hn7).mono ?_
            rintro e w' ⟨rfl, rfl⟩
            go_wp2_with fail
            go_roundg (rmN x k)
            case measure => have := rmN_lt hx7 (k := k) (by omega) H1.out; omega
            case rel => exact ⟨rmN x k, rfl, Nat.le_refl _, HX.out.next hf hlt H2.out, rfl⟩
          · have H1 := Lib.hid hb1
            have H2 := Lib.hid hb2
            go_wp2_with fail
            refine (inSet_c x k _ hx7 hk7).mono ?_
            rintro e w' ⟨rfl, rfl⟩
            go_wp2_with fail
            refine (inSet_c x (nx f k) _ hx7 hn7).mono ?_
            rintro e w' ⟨rfl, rfl⟩
            go_wp2_with fail
            go_roundg (f.length - (k + 1))
            case measure => omega
            case rel => exact ⟨k + 1, rfl, by go_num, by omega, by omega, fun j hj hjb => by
              rcases Nat.lt_or_ge j k with h' | h'
              · exact HA.out j h' hjb
              · obtain rfl : j = k := by omega
                exact H2.out, rfl⟩
      · go_wp2
        first | rw [Exit.noGoto_ret] | skip
        go_ret
        exact ⟨intEnd (by rw [← HX.out.done hf (fun j hj => HA.out j (by omega))]), rfl⟩

def withinI (xs : List Int) (s : Int) : Int := if setOk xs s then (withinN (toN xs) s.toNat : Int) else -1
theorem withinI_ok {f : List Nat} {m : Nat} (hf : MapN f) (hm : m < 2 ^ f.length) : withinI (ints f) (m : Int) = (withinN f m : Int) := by
  unfold withinI; rw [if_pos (setOk_ints hf hm), toN_ints]; simp
theorem withinI_no {xs : List Int} {s : Int} (h : setOk xs s = false) : withinI xs s = -1 := by unfold withinI; rw [h]; simp

set_option maxHeartbeats 400000 in
theorem closedWithin_c (A : Option Addr) (n c : Nat) (xs : List Int) (s : Int) (w : World) (h : Rd w w.heap.size A n c xs) :
    Calls Try.prog 14 #[.slice A n c, .int .i64 s] w fun e w' => e = .returned (.int .i64 (withinI xs s)) ∧ w = w' := by
  rcases hs : setOk xs s with _ | _
  · have HS := Lib.hid (withinI_no hs)
    go_enter Try.func14, Try.ntmps14
    go_wp2_with fail
    go_step3
    go_wp2_with (go_at_call 35; refine (setOk_c _ _ _ _ _ _ h).mono ?_; rintro e w' ⟨rfl, rfl⟩)
    first | rw [Exit.noGoto_ret] | skip
    go_ret
    exact ⟨intEnd HS.out.symm, rfl⟩
  · obtain ⟨f, m, rfl, rfl, hf, hm⟩ := setOk_ex hs
    obtain rfl : f.length = n := by rw [← h.len, ints_len]
    rw [withinI_ok hf hm]
    exact closedWithin_ok A c m f w h hf hm

/-! ### the reference's -/
def Gd (f : List Nat) (m k i q : Nat) : Prop := (q = 1 ∧ ∀ a, a < i → m.testBit (it f a k) = true) ∨ (q = 0 ∧ ∃ a, a < i ∧ m.testBit (it f a k) = false)
theorem Gd.le {f : List Nat} {m k i q : Nat} (h : Gd f m k i q) : q ≤ 1 := by rcases h with ⟨e, _⟩ | ⟨e, _⟩ <;> omega
theorem Gd.yes {f : List Nat} {m k i q : Nat} (h : Gd f m k i q) (hb : m.testBit (it f i k) = true) : Gd f m k (i + 1) q := by
  rcases h with ⟨e, ha⟩ | ⟨e, a, hlt, ha⟩
  · refine .inl ⟨e, fun a hlt => ?_⟩
    rcases Nat.lt_or_ge a i with h' | h'
    · exact ha a h'
    · obtain rfl : a = i := by omega
      exact hb
  · exact .inr ⟨e, a, by omega, ha⟩
theorem Gd.no {f : List Nat} {m k i : Nat} (hb : m.testBit (it f i k) = false) : Gd f m k (i + 1) 0 := .inr ⟨rfl, i, by omega, hb⟩
theorem Gd.done {f : List Nat} {m k q : Nat} (h : Gd f m k (wl f k) q) : q = if inWay f m k then 1 else 0 := by
  rcases h with ⟨e, ha⟩ | ⟨e, a, hlt, ha⟩
  · have : inWay f m k = true := by
      unfold inWay; rw [List.all_eq_true]; intro x hx
      obtain ⟨j, hj, rfl⟩ := mem_orb.1 hx
      exact ha j hj
    rw [this]; simpa using e
  · have : inWay f m k = false := by
      rcases e2 : inWay f m k with _ | _
      · rfl
      · unfold inWay at e2; rw [List.all_eq_true] at e2
        have := e2 _ (mem_orb.2 ⟨a, hlt, rfl⟩)
        rw [ha] at this; cases this
    rw [this]; simpa using e
theorem setK_add (p : Nat → Bool) (k : Nat) : setK p (k + 1) = setK p k + (if p k then 1 else 0) * 2 ^ k := by
  rw [setK]
  split
  · have := setK_lt p k
    have e := Nat.two_pow_add_eq_or_of_lt this 1
    rw [Nat.mul_one] at e
    rw [Nat.or_comm, Nat.one_mul, Nat.add_comm, e]
  · simp
theorem nx_orb {f : List Nat} {k i L : Nat} (h : i < L) : nx (orb f k L) i = it f i k := by
  rw [nx_get (by rw [orb_len]; exact h), orb_get]
theorem way_len (f : List Nat) (k : Nat) : (way f k).length = wl f k := orb_len _ _ _

set_option maxHeartbeats 800000 in
theorem sClosedWithin_ok (A : Option Addr) (c m : Nat) (f : List Nat) (w : World) (h : Rd w w.heap.size A f.length c (ints f)) (hf : MapN f) (hm : m < 2 ^ f.length) :
    Calls Try.prog 15 #[.slice A f.length c, .int .i64 m] w fun e w' => e = .returned (.int .i64 (withinN f m : Int)) ∧ Below w.heap.size w w' := by
  have hs := setOk_ints hf hm
  have h7 := hf.le7
  have h27 := (two_le h7).2
  have hm7 : m < 128 := by omega
  go_enter Try.func15, Try.ntmps15
  go_wp2_with (go_at_call 37; refine (sSetOk_c _ _ _ _ _ _ h).mono ?_; rintro e w' ⟨rfl, rfl⟩)
  go_loopw [5, 6] (fun o i wr => ∃ k : Nat, k ≤ f.length ∧ i = .int .i64 k ∧ o = .int .i64 ((setK (inWay f m) k : Nat) : Int) ∧ Below w.heap.size w wr) (fun o i _ => f.length - (intOf i).toNat)
  case atStart => exact ⟨0, Nat.zero_le _, rfl, rfl, Below.refl _ _⟩
  case round =>
    obtain ⟨k, hk, rfl, rfl, hbw⟩ := hrel
    by_cases hlt : k < f.length
    · have hR := h.up hbw
      have hsl := setK_lt (inWay f m) k
      have hk7 : k < 7 := by omega
      have h2 := two_le (k := k) (by omega)
      have hi1 : (1 : Int) ≤ 2 ^ k := by rw [castPow]; omega
      have hi2 : (2 : Int) ^ k ≤ 128 := by rw [castPow]; omega
      have hs7 : setK (inWay f m) k < 128 := by omega
      have HK := Lib.hid (setK_add (inWay f m) k)
      have HB := Lib.hid hbw
      clear h2 hsl hbw
      go_wp2_with fail
      refine (sWayFrom_ok _ _ f k _ hR hf hlt).mono ?_
      rintro e w1 ⟨v, rfl, hov, hb1⟩
      obtain ⟨A', c', rfl, how⟩ := hov.form
      have hlen : Hid ((ints (way f k)).length = wl f k) := by unfold Hid; rw [ints_len, way_len]
      rw [hlen.out] at how ⊢
      have hrd := how.rd
      have hwl := wl_le hf hlt
      have hc1 := hrd.cap
      have hc2 := hrd.max
      unfold maxLen at hc2
      have HB1 := Lib.hid hb1
      clear hov how hb1
      go_wp2_with fail
      go_loop [8, 9] (fun g j => ∃ i q : Nat, i ≤ wl f k ∧ j = .int .i64 i ∧ g = .int .i64 q ∧ Gd f m k i q) (fun g j => wl f k - (intOf j).toNat)
      case atStart => exact ⟨0, 1, Nat.zero_le _, rfl, rfl, .inl ⟨rfl, fun a ha => absurd ha (Nat.not_lt_zero _)⟩⟩
      case round =>
        obtain ⟨i, q, hi, rfl, rfl, hg⟩ := hrel
        have HG := Lib.hid hg
        have hq1 := hg.le
        clear hg
        by_cases hil : i < wl f k
        · obtain ⟨b, off, rfl, hb, hcell0⟩ := hrd.at_ hil
          have hcell : w1.cell? ⟨b, off + i, none⟩ = some (.int .i64 ((it f i k : Nat) : Int)) := by rw [hcell0, gI_ints, way, nx_orb hil]
          clear hcell0
          have hx := it_lt hf hlt i
          have hob := even_bit m (it f i k)
          have hsr := shr_bit m (it f i k)
          rcases hbt : m.testBit (it f i k) with _ | _
          · have HT := Lib.hid hbt
            go_wp2
            go_round
            case rel => exact ⟨i + 1, 0, by omega, by go_num, rfl, Gd.no HT.out⟩
            case measure => simp [intOf]; omega
          · have HT := Lib.hid hbt
            go_wp2
            go_round
            case rel => exact ⟨i + 1, q, by omega, by go_num, rfl, HG.out.yes HT.out⟩
            case measure => simp [intOf]; omega
        · obtain rfl : i = wl f k := by omega
          have hqd : Hid (q = if inWay f m k then 1 else 0) := Gd.done HG.out
          rcases Nat.eq_zero_or_pos q with h0 | h0
          · subst h0
            go_wp2
            go_roundw
            case rel => exact ⟨k + 1, by omega, by go_num, by rw [HK.out, ← hqd.out]; simp, HB.out.trans (HB1.out.mono HB.out.size)⟩
            case measure => simp [intOf]; omega
          · obtain rfl : q = 1 := by omega
            go_wp2
            go_roundw
            case rel => exact ⟨k + 1, by omega, by go_num, by rw [HK.out, ← hqd.out]; simp, HB.out.trans (HB1.out.mono HB.out.size)⟩
            case measure => simp [intOf]; omega
    · obtain rfl : k = f.length := by omega
      go_wp2
      go_ret
      exact ⟨rfl, hbw⟩

set_option maxHeartbeats 400000 in
theorem sClosedWithin_c (A : Option Addr) (n c : Nat) (xs : List Int) (s : Int) (w : World) (h : Rd w w.heap.size A n c xs) :
    Calls Try.prog 15 #[.slice A n c, .int .i64 s] w fun e w' => e = .returned (.int .i64 (withinI xs s)) ∧ Below w.heap.size w w' := by
  rcases hs : setOk xs s with _ | _
  · have HS := Lib.hid (withinI_no hs)
    go_enter Try.func15, Try.ntmps15
    go_wp2_with (go_at_call 37; refine (sSetOk_c _ _ _ _ _ _ h).mono ?_; rintro e w' ⟨rfl, rfl⟩)
    go_ret
    exact ⟨intEnd HS.out.symm, Below.refl _ _⟩
  · obtain ⟨f, m, rfl, rfl, hf, hm⟩ := setOk_ex hs
    obtain rfl : f.length = n := by rw [← h.len, ints_len]
    rw [withinI_ok hf hm]
    exact sClosedWithin_ok A c m f w h hf hm
end Go.Proofs.Ytpogphpgbljhaaa
namespace Go.Proofs.Ytpogphpgbljhaaa
set_option linter.unusedVariables false
open Go.RowKit



end Go.Proofs.Ytpogphpgbljhaaa
