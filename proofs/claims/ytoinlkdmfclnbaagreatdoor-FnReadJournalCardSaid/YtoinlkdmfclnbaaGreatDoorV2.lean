/- Walks: marks in a row and their reading (laws); ClosedAround, LimitOf (impl and spec). · Walks: WayFrom (spec); ClosedWithin (impl and spec). · Walks: ClosedWithin (impl and spec). · Walks: the exact laws over one number or one truth. Printed by gen_w5.py. -/
import Derived.Outline
import Derived.Deep.LoopGhost
import Derived.WalkMore
import Derived.Test.YtoinlkdmfclnbaaGreatDoorV1
import Derived.Test.YtoinlkdmfclnbaaGreatDoorQ
import Derived.Test.YtoinlkdmfclnbaaGreatDoorP
namespace Go.Proofs.YtoinlkdmfclnbaaGreatDoor
set_option linter.unusedVariables false
open Go.RowKit

set_option maxHeartbeats 400000 in
theorem markIntS_c (A : Option Addr) (n c k0 lo hi : Nat) (xs : List Int) (w : World) (h : OwnIn w lo hi A n c xs) (hk0 : k0 + n ≤ 1000000000000) :
    Calls Tryz.prog 77 #[.slice A n c, .int .i64 k0] w fun e w' => e = .returned (.int .i64 ((k0 + n : Nat) : Int)) ∧ OwnIn w' lo hi A n c (marks k0 n) ∧ Chg lo hi w w' := by
  have HL := Lib.hid h.len
  go_enter Tryz.func77, Tryz.ntmps77
  go_wp2
  go_loopw [1, 5] (fun k i wr => ∃ j : Nat, j ≤ n ∧ i = .int .i64 j ∧ k = .int .i64 ((k0 : Int) + (j : Int)) ∧ OwnIn wr lo hi A n c (marked xs k0 j) ∧ Chg lo hi w wr) (fun k i _ => n - (intOf i).toNat)
  case atStart => exact ⟨0, Nat.zero_le _, rfl, by simp, by rw [marked_zero]; exact h, Chg.refl _ _ _⟩
  case round =>
    obtain ⟨j, hj, rfl, rfl, ho, hc⟩ := hrel
    by_cases hlt : j < n
    · obtain ⟨g, rfl⟩ := ho.some_ (by omega)
      have hcell := ho.cell hlt
      have hfz := ho.frozen j
      have hst := Lib.hid (ho.store j ((k0 : Int) + (j : Int)))
      have HC := Lib.hid hc
      clear ho hc
      go_wp2
      go_roundw
      case rel => exact ⟨j + 1, by omega, by go_num, by go_num, by
        have e := marked_succ xs k0 j (by rw [HL.out]; exact hlt)
        rw [← e]
        have := hst.out.1
        rwa [← Int.natCast_add] at this, HC.out.trans (by have := hst.out.2; exact this)⟩
      case measure => simp [intOf]; omega
    · obtain rfl : j = n := by omega
      have HO := Lib.hid ho
      clear ho
      go_wp2
      go_ret
      exact ⟨intEnd (by omega), by rw [← marked_all xs k0 j HL.out]; exact HO.out, hc⟩

set_option maxHeartbeats 400000 in
theorem heldIntS_c (A : Option Addr) (n c k0 : Nat) (w : World) (h : Rd w w.heap.size A n c (marks k0 n)) (hk0 : k0 + n ≤ 1000000000000) :
    Calls Tryz.prog 80 #[.slice A n c, .int .i64 k0] w fun e w' => e = .returned (.int .i64 ((k0 + n : Nat) : Int)) ∧ w = w' := by
  go_enter Tryz.func80, Tryz.ntmps80
  go_wp2
  go_loop [1, 5] (fun k i => ∃ j : Nat, j ≤ n ∧ i = .int .i64 j ∧ k = .int .i64 ((k0 : Int) + (j : Int))) (fun k i => n - (intOf i).toNat)
  case atStart => exact ⟨0, Nat.zero_le _, rfl, by simp⟩
  case round =>
    obtain ⟨j, hj, rfl, rfl⟩ := hrel
    by_cases hlt : j < n
    · obtain ⟨b, off, rfl, hb, hcell0⟩ := h.at_ hlt
      have hcell : w.cell? ⟨b, off + j, none⟩ = some (.int .i64 ((k0 : Int) + (j : Int))) := by rw [hcell0, gI_marks hlt, Int.natCast_add]
      clear hcell0
      go_wp2
      go_round
      case rel => exact ⟨j + 1, by omega, by go_num, by go_num⟩
      case measure => simp [intOf]; omega
    · obtain rfl : j = n := by omega
      go_wp2
      go_ret
      exact ⟨intEnd (by omega), rfl⟩

/-! ### ClosedAround -/
def aroundI (xs : List Int) (s : Int) : Int := if setOk xs s then (aroundN (toN xs) s.toNat : Int) else -1
theorem aroundI_ok {f : List Nat} {m : Nat} (hf : MapN f) (hm : m < 2 ^ f.length) : aroundI (ints f) (m : Int) = (aroundN f m : Int) := by
  unfold aroundI; rw [if_pos (setOk_ints hf hm), toN_ints]; simp
theorem aroundI_no {xs : List Int} {s : Int} (h : setOk xs s = false) : aroundI xs s = -1 := by unfold aroundI; rw [h]; simp
/-- what holds at each round's head -/
def Ar (f : List Nat) (m x : Nat) : Prop := x < 2 ^ f.length ∧ sub m x ∧ sub x (aroundN f m)
theorem Ar.next {f : List Nat} {m x : Nat} (hf : MapN f) (h : Ar f m x) : Ar f m (x ||| led f x) :=
  ⟨or_lt h.1 (led_lt hf x), sub_trans h.2.1 (sub_or_left _ _), or_sub h.2.2 (sub_trans (led_mono h.2.2) (aroundN_closed hf m))⟩
theorem Ar.done {f : List Nat} {m x : Nat} (hf : MapN f) (h : Ar f m x) (hc : closedN f x = true) : x = aroundN f m :=
  sub_antisymm h.2.2 (aroundN_least hf h.2.1 (closedN_iff.1 hc))
theorem closed_not {f : List Nat} {x : Nat} (hc : closedN f x = false) : ¬ sub (led f x) x := fun h => by
  have := closedN_iff.2 h
  unfold closedN at hc
  rw [hc] at this; cases this

/-! ### LimitOf -/
def limitI (xs : List Int) : Int := if mapOk xs then (limitN (toN xs) : Int) else -1
theorem limitI_ok {f : List Nat} (hf : MapN f) : limitI (ints f) = (limitN f : Int) := by unfold limitI; rw [if_pos (mapOk_ints hf), toN_ints]
theorem limitI_no {xs : List Int} (h : mapOk xs = false) : limitI xs = -1 := by unfold limitI; rw [h]; simp
def Li (f : List Nat) (x : Nat) : Prop := x < 2 ^ f.length ∧ sub (limitN f) x ∧ sub (led f x) x
theorem Li.start {f : List Nat} (hf : MapN f) : Li f (allN f) := ⟨allN_lt f, sub_all.2 (limitN_lt f), sub_all.2 (led_lt hf _)⟩
theorem Li.next {f : List Nat} {x : Nat} (hf : MapN f) (h : Li f x) : Li f (led f x) :=
  ⟨led_lt hf x, by have := led_mono (f := f) h.2.1; rwa [limitN_led hf] at this, led_mono h.2.2⟩
theorem Li.done {f : List Nat} {x : Nat} (hf : MapN f) (h : Li f x) (e : led f x = x) : x = limitN f := limitN_of hf h.1 e h.2.1

end Go.Proofs.YtoinlkdmfclnbaaGreatDoor
namespace Go.Proofs.YtoinlkdmfclnbaaGreatDoor
set_option linter.unusedVariables false
open Go.RowKit

theorem even_bit (m t : Nat) : (((m : Int) / 2 ^ t).tmod 2 == 0) = !m.testBit t := by
  have h := odd_bit m t
  have h0 : (0 : Int) ≤ (m : Int) / 2 ^ t := Int.ediv_nonneg (by omega) (by rw [castPow]; exact Int.natCast_nonneg _)
  rw [Int.tmod_eq_emod_of_nonneg h0] at h ⊢
  rw [← h]
  have := Int.emod_two_eq ((m : Int) / 2 ^ t)
  rcases this with e | e <;> simp [e]
/-- the place is one of the map's -/
def atOk (xs : List Int) (t : Int) : Bool := mapOk xs && hasB xs.length t
def wayI (xs : List Int) (t : Int) : List Int := if atOk xs t then ints (way (toN xs) t.toNat) else []
theorem atOk_ex {xs : List Int} {t : Int} (h : atOk xs t = true) : ∃ f k, xs = ints f ∧ t = ((k : Nat) : Int) ∧ MapN f ∧ k < f.length := by
  unfold atOk at h
  rw [Bool.and_eq_true, hasB_iff] at h
  obtain ⟨h1, h2, h3⟩ := h
  obtain ⟨f, rfl, hf⟩ := mapOk_ex h1
  obtain ⟨k, rfl⟩ := Int.eq_ofNat_of_zero_le h2
  refine ⟨f, k, rfl, rfl, hf, ?_⟩
  rw [ints_len] at h3; omega
theorem atOk_ints {f : List Nat} {k : Nat} (hf : MapN f) (hk : k < f.length) : atOk (ints f) (k : Int) = true := by
  unfold atOk; rw [mapOk_ints hf, Bool.true_and, hasB_iff, ints_len]; omega
theorem wayI_ok {f : List Nat} {k : Nat} (hf : MapN f) (hk : k < f.length) : wayI (ints f) (k : Int) = ints (way f k) := by
  unfold wayI; rw [if_pos (atOk_ints hf hk), toN_ints]; simp
theorem wayI_no {xs : List Int} {t : Int} (h : atOk xs t = false) : wayI xs t = [] := by unfold wayI; rw [h]; simp

set_option maxHeartbeats 800000 in
theorem sWayFrom_ok (A : Option Addr) (c : Nat) (f : List Nat) (k : Nat) (w : World) (h : Rd w w.heap.size A f.length c (ints f)) (hf : MapN f) (hk : k < f.length) :
    Calls Tryz.prog 64 #[.slice A f.length c, .int .i64 k] w fun e w' => ∃ v, e = .returned v ∧ OwnV w' w.heap.size v (ints (way f k)) ∧ Below w.heap.size w w' := by
  have h7 := hf.le7
  have hin : inB (k : Int) 0 ((f.length : Int) - 1) = true := by rw [inB_iff]; omega
  have hmo := mapOk_ints hf
  go_enter Tryz.func64, Tryz.ntmps64
  go_wp2_with fail
  have hB0 : Below w.heap.size w (w.alloc (Obj.cells #[] 3)) := (Below.refl _ _).alloc (Nat.le_refl _) _
  have hO0 := OwnV.made w w.heap.size #[] (Nat.le_refl _) rfl
  generalize w.alloc (Obj.cells #[] 3) = w0 at hB0 hO0 ⊢
  have h0 := h.up hB0
  go_wp2_with (first
    | (go_at_call 67; refine (sMapOk_c _ _ _ _ _ h0).mono ?_; rintro e w' ⟨rfl, rfl⟩)
    | (go_at_call 129; refine (l1In_c _ _ _ _).mono ?_; rintro e w' ⟨rfl, rfl⟩))
  go_loopw [5, 6, 7] (fun o s t wr => ∃ i : Nat, i ≤ f.length ∧ OwnV wr w.heap.size o (ints (orb f k i)) ∧ s = .int .i64 ((seenK f k i : Nat) : Int) ∧ t = .int .i64 ((it f i k : Nat) : Int) ∧ (orb f k i).Nodup ∧ Below w.heap.size w wr) (fun o s t _ => 128 - (intOf s).toNat)
  case atStart => exact ⟨0, Nat.zero_le _, hO0, rfl, rfl, by simp [orb], hB0⟩
  case round =>
    obtain ⟨i, hi, hown, rfl, rfl, hnd, hbw⟩ := hrel
    have hx := it_lt hf hk i
    have hs7 : seenK f k i < 128 := by have := seenK_lt hf hk i; have := (two_le h7).2; omega
    have hob := even_bit (seenK f k i) (it f i k)
    have hsr := shr_bit (seenK f k i) (it f i k)
    have HN := Lib.hid hnd
    clear hnd
    by_cases hb : it f i k ∈ orb f k i
    · have hbt : (seenK f k i).testBit (it f i k) = true := (seenK_bit f k _ i).2 hb
      have HB := Lib.hid hb
      clear hb
      go_wp2
      go_ret
      have hpos : 1 ≤ i := by
        rcases Nat.eq_zero_or_pos i with h | h
        · subst h; have := HB.out; simp [orb] at this
        · exact h
      exact ⟨_, rfl, by rw [way, ← way_done hf hk hpos HN.out HB.out]; exact hown, hbw⟩
    · have hbt : (seenK f k i).testBit (it f i k) = false := by
        rcases e : (seenK f k i).testBit (it f i k) with _ | _
        · rfl
        · exact absurd ((seenK_bit f k _ i).1 e) hb
      obtain ⟨b, off, rfl, hbb, hcell0⟩ := h.at_ hx
      have hcell1 : w.cell? ⟨b, off + it f i k, none⟩ = some (.int .i64 ((nx f (it f i k) : Nat) : Int)) := by rw [hcell0, gI_ints]
      clear hcell0
      have h2 := two_le (k := it f i k) (by omega)
      have hi1 : (1 : Int) ≤ 2 ^ it f i k := by rw [castPow]; omega
      have hi2 : (2 : Int) ^ it f i k ≤ 128 := by rw [castPow]; omega
      have hor : bits .or .i64 ((seenK f k i : Nat) : Int) (2 ^ it f i k) = ((seenK f k i ||| 2 ^ it f i k : Nat) : Int) := by
        rw [castPow]; exact bits_or _ _ (by omega) (by omega)
      have HG := Lib.hid (seenK_grow hb)
      have HD := Lib.hid (orb_nodup_succ HN.out hb)
      have hle := orb_le hf hk HD.out
      have hlen : (ints (orb f k i)).length ≤ 1000000000000 := by rw [ints_len, orb_len]; omega
      have HBW := Lib.hid hbw
      clear h2 hb
      go_wp2_with (at_builtin; go_loud (refine app_int wr _ rfl _ _ rfl w.heap.size _ (ints (orb f k i)) rfl hown rfl hlen hbw.size ?_); intro v' w' hown' hb'; have hcell := (hb'.cell (p := ⟨b, off + it f i k, none⟩) hbb).trans ((HBW.out.cell (p := ⟨b, off + it f i k, none⟩) hbb).trans hcell1))
      go_roundw
      case rel => exact ⟨i + 1, hle, by rw [ints_orb_succ]; exact hown', rfl, rfl, HD.out, hbw.trans hb'⟩
      case measure => have := HG.out; rw [seenK] at this; simp [intOf]; omega
end Go.Proofs.YtoinlkdmfclnbaaGreatDoor
namespace Go.Proofs.YtoinlkdmfclnbaaGreatDoor
set_option linter.unusedVariables false
open Go.RowKit
/-- one thing less -/
def rmN (x k : Nat) : Nat := x &&& (18446744073709551615 - 2 ^ k)
theorem rmN_bit {x k j : Nat} (hx : x < 128) (hk : k ≤ 7) : (rmN x k).testBit j = true ↔ x.testBit j = true ∧ j ≠ k := by
  unfold rmN
  have h2 := two_le hk
  rw [Nat.testBit_and, not_bit _ _ (by omega), testBit_two]
  rcases e : x.testBit j with _ | _
  · simp
  · have := bit64 hx e
    simp [this]; omega
theorem rmN_lt {x k : Nat} (hx : x < 128) (hk : k ≤ 7) (h : x.testBit k = true) : rmN x k < x := by
  have h1 : sub (rmN x k) x := fun j hj => ((rmN_bit hx hk).1 hj).1
  have h2 := sub_le h1
  rcases Nat.lt_or_ge (rmN x k) x with h3 | h3
  · exact h3
  · exfalso
    have e : rmN x k = x := by omega
    have := (rmN_bit (j := k) hx hk).1 (by rw [e]; exact h)
    exact this.2 rfl
/-- what holds at the outer loop's head -/
def Wi (f : List Nat) (m x : Nat) : Prop := x < 2 ^ f.length ∧ sub (withinN f m) x ∧ sub x m
theorem Wi.next {f : List Nat} {m x k : Nat} (hf : MapN f) (hk : k < f.length) (h : Wi f m x) (h2 : x.testBit (nx f k) = false) : Wi f m (rmN x k) := by
  have h7 := hf.le7
  have hx : x < 128 := by have := h.1; have := (two_le h7).2; omega
  have hs : sub (rmN x k) x := fun j hj => ((rmN_bit hx (by omega)).1 hj).1
  refine ⟨by have := sub_le hs; have := h.1; omega, fun j hj => (rmN_bit hx (by omega)).2 ⟨h.2.1 j hj, fun e => ?_⟩, sub_trans hs h.2.2⟩
  subst e
  have := h.2.1 _ (closed_iff.1 (withinN_closed hf m) _ hk hj)
  rw [h2] at this; cases this
theorem Wi.done {f : List Nat} {m x : Nat} (hf : MapN f) (h : Wi f m x) (hc : ∀ j, j < f.length → x.testBit j = true → x.testBit (nx f j) = true) : x = withinN f m :=
  sub_antisymm (withinN_greatest hf h.1 h.2.2 (closed_iff.2 hc)) h.2.1
def withinI (xs : List Int) (s : Int) : Int := if setOk xs s then (withinN (toN xs) s.toNat : Int) else -1
theorem withinI_ok {f : List Nat} {m : Nat} (hf : MapN f) (hm : m < 2 ^ f.length) : withinI (ints f) (m : Int) = (withinN f m : Int) := by
  unfold withinI; rw [if_pos (setOk_ints hf hm), toN_ints]; simp
theorem withinI_no {xs : List Int} {s : Int} (h : setOk xs s = false) : withinI xs s = -1 := by unfold withinI; rw [h]; simp

/-! ### the reference's -/
def Gd (f : List Nat) (m k i q : Nat) : Prop := (q = 1 ∧ ∀ a, a < i → m.testBit (it f a k) = true) ∨ (q = 0 ∧ ∃ a, a < i ∧ m.testBit (it f a k) = false)
theorem Gd.le {f : List Nat} {m k i q : Nat} (h : Gd f m k i q) : q ≤ 1 := by rcases h with ⟨e, _⟩ | ⟨e, _⟩ <;> omega
theorem Gd.yes {f : List Nat} {m k i q : Nat} (h : Gd f m k i q) (hb : m.testBit (it f i k) = true) : Gd f m k (i + 1) q := by
  rcases h with ⟨e, ha⟩ | ⟨e, a, hlt, ha⟩
  · refine .inl ⟨e, fun a hlt => ?_⟩
    rcases Nat.lt_or_ge a i with h' | h'
    · exact ha a h'
    · obtain rfl : a = i := by omega
      exact hb
  · exact .inr ⟨e, a, by omega, ha⟩
theorem Gd.no {f : List Nat} {m k i : Nat} (hb : m.testBit (it f i k) = false) : Gd f m k (i + 1) 0 := .inr ⟨rfl, i, by omega, hb⟩
theorem Gd.done {f : List Nat} {m k q : Nat} (h : Gd f m k (wl f k) q) : q = if inWay f m k then 1 else 0 := by
  rcases h with ⟨e, ha⟩ | ⟨e, a, hlt, ha⟩
  · have : inWay f m k = true := by
      unfold inWay; rw [List.all_eq_true]; intro x hx
      obtain ⟨j, hj, rfl⟩ := mem_orb.1 hx
      exact ha j hj
    rw [this]; simpa using e
  · have : inWay f m k = false := by
      rcases e2 : inWay f m k with _ | _
      · rfl
      · unfold inWay at e2; rw [List.all_eq_true] at e2
        have := e2 _ (mem_orb.2 ⟨a, hlt, rfl⟩)
        rw [ha] at this; cases this
    rw [this]; simpa using e
theorem setK_add (p : Nat → Bool) (k : Nat) : setK p (k + 1) = setK p k + (if p k then 1 else 0) * 2 ^ k := by
  rw [setK]
  split
  · have := setK_lt p k
    have e := Nat.two_pow_add_eq_or_of_lt this 1
    rw [Nat.mul_one] at e
    rw [Nat.or_comm, Nat.one_mul, Nat.add_comm, e]
  · simp
theorem nx_orb {f : List Nat} {k i L : Nat} (h : i < L) : nx (orb f k L) i = it f i k := by
  rw [nx_get (by rw [orb_len]; exact h), orb_get]
theorem way_len (f : List Nat) (k : Nat) : (way f k).length = wl f k := orb_len _ _ _

end Go.Proofs.YtoinlkdmfclnbaaGreatDoor
namespace Go.Proofs.YtoinlkdmfclnbaaGreatDoor
set_option linter.unusedVariables false
open Go.RowKit



end Go.Proofs.YtoinlkdmfclnbaaGreatDoor
