/- Walks: slices.Min at []int, LoopOf (impl). -/
import Derived.Test.YtlbiioncpeondaaW31
import Derived.Test.YtlbiioncpeondaaM8
namespace Go.Proofs.Ytlbiioncpeondaa
set_option linter.unusedVariables false
open Go.RowKit

def MinOut (xs : List Int) (n : Nat) (w : World) (e : Ending) (w' : World) : Prop :=
  w = w' ∧ ∃ r : Int, e = .returned (.int .i64 r) ∧ (∃ j, j < n ∧ gI xs j = r) ∧ ∀ j, j < n → r ≤ gI xs j
set_option maxHeartbeats 400000 in
theorem min_c (A : Option Addr) (n c : Nat) (xs : List Int) (w : World) (h : Rd w w.heap.size A n c xs) (h0 : 0 < n) :
    Calls Try.prog 92 #[.slice A n c] w (MinOut xs n w) := by
  have hm := h.max
  have hc := h.cap
  unfold maxLen at hm
  obtain ⟨b, off, rfl, hb, hcells⟩ := h.2.2.2 h0
  have hc0 := hcells 0 h0
  rw [Nat.add_zero] at hc0
  have HC := Lib.hid hcells
  clear hcells
  go_enter Try.func92, Try.ntmps92
  go_wp2_with fail
  go_loopw [3, 4] (fun m i wr => ∃ (k : Nat) (r : Int), 1 ≤ k ∧ k ≤ n ∧ i = .int .i64 k ∧ m = .int .i64 r ∧ (∃ j, j < k ∧ gI xs j = r) ∧ (∀ j, j < k → r ≤ gI xs j) ∧ wr = w) (fun _ i _ => n - (intOf i).toNat)
  case atStart => exact ⟨1, _, Nat.le_refl _, h0, rfl, rfl, ⟨0, by omega, rfl⟩, fun j hj => by rw [show j = 0 by omega]; exact Int.le_refl _, rfl⟩
  case round =>
    obtain ⟨k, r, hk1, hk, rfl, rfl, hex, hall, rfl⟩ := hrel
    have HA := Lib.hid hall
    have HX := Lib.hid hex
    clear hall hex hc0
    by_cases hlt : k < n
    · have hcell := HC.out k hlt
      by_cases he : gI xs k < r
      · have he2 : ¬ (r < gI xs k) := by omega
        have he3 : ¬ (r ≤ gI xs k) := by omega
        have HE := Lib.hid he
        go_wp2_with fail
        go_roundw
        case rel => exact ⟨k + 1, gI xs k, by omega, by omega, by go_num, by rfl, ⟨k, by omega, rfl⟩, fun j hj => by
          rcases Nat.lt_or_ge j k with h' | h'
          · have := HA.out j h'; have := HE.out; omega
          · obtain rfl : j = k := by omega
            exact Int.le_refl _, trivial⟩
        case measure => simp [intOf]; omega
      · have HE := Lib.hid he
        go_wp2_with fail
        go_roundw
        case rel => exact ⟨k + 1, r, by omega, by omega, by go_num, by rfl, by obtain ⟨j, hj, e⟩ := HX.out; exact ⟨j, by omega, e⟩, fun j hj => by
          rcases Nat.lt_or_ge j k with h' | h'
          · exact HA.out j h'
          · obtain rfl : j = k := by omega
            have := HE.out; omega, trivial⟩
        case measure => simp [intOf]; omega
    · obtain rfl : k = n := by omega
      go_wp2_with fail
      go_ret
      exact ⟨rfl, r, rfl, HX.out, HA.out⟩
theorem Rd.drop_ {w : World} {B g n c k : Nat} {xs : List Int} (h : Rd w B (some ⟨g, 0, none⟩) n c xs) (hk : k ≤ n) : Rd w B (some ⟨g, k, none⟩) (n - k) (c - k) (xs.drop k) := by
  refine ⟨by rw [List.length_drop, h.len], by have := h.cap; omega, by have := h.max; omega, fun hp => ?_⟩
  obtain ⟨b, off, e, hb, hc⟩ := h.2.2.2 (by omega)
  cases e
  refine ⟨g, k, rfl, hb, fun j hj => ?_⟩
  have := hc (k + j) (by omega)
  rw [Nat.zero_add] at this
  rw [this]; unfold gI; simp [List.getD]
def loopI (xs : List Int) (t : Int) : Int := if atOk xs t then (lo (toN xs) t.toNat : Int) else -1
theorem loopI_ok {f : List Nat} {k : Nat} (hf : MapN f) (hk : k < f.length) : loopI (ints f) (k : Int) = (lo f k : Int) := by
  unfold loopI; rw [if_pos (atOk_ints hf hk), toN_ints]; simp
theorem loopI_no {xs : List Int} {t : Int} (h : atOk xs t = false) : loopI xs t = -1 := by unfold loopI; rw [h]; simp
theorem OwnV.some_ {w : World} {B : Nat} {v : Value} {xs : List Int} (h : OwnV w B v xs) (h0 : 0 < xs.length) : ∃ g c, v = .slice (some ⟨g, 0, none⟩) xs.length c ∧ Rd w w.heap.size (some ⟨g, 0, none⟩) xs.length c xs := by
  obtain ⟨A, c, rfl, ho⟩ := h.form
  obtain ⟨g, rfl⟩ := ho.inn.some_ h0
  exact ⟨g, c, rfl, ho.rd⟩
set_option maxHeartbeats 800000 in
theorem loopOf_c (A : Option Addr) (n c : Nat) (xs : List Int) (t : Int) (w : World) (h : Rd w w.heap.size A n c xs) :
    Calls Try.prog 67 #[.slice A n c, .int .i64 t] w fun e w' => e = .returned (.int .i64 (loopI xs t)) ∧ Below w.heap.size w w' := by
  rcases hs : atOk xs t with _ | _
  · have HW := Lib.hid (loopI_no hs)
    go_enter Try.func67, Try.ntmps67
    go_wp2_with (go_at_call 89; refine (thingOk_c _ _ _ _ _ _ h).mono ?_; rintro e w' ⟨rfl, rfl⟩)
    go_ret
    exact ⟨intEnd HW.out.symm, Below.refl _ _⟩
  · obtain ⟨f, k, rfl, rfl, hf, hk⟩ := atOk_ex hs
    obtain rfl : n = f.length := by rw [← h.len, ints_len]
    have HW := Lib.hid (loopI_ok hf hk)
    have hwi := wayI_ok hf hk
    have hti := tailI_ok hf hk
    have hlw : (ints (way f k)).length = wl f k := by rw [ints_len, way, orb_len]
    have htl := (tl_is hf hk).1
    have hwl := wl_le hf hk
    have h7 := hf.le7
    have hg : ∀ j, j < wl f k → gI (ints (way f k)) j = (it f j k : Int) := fun j hj => by
      rw [gI_ints, nx_get (by rw [way, orb_len]; exact hj)]; simp only [way]; rw [orb_get]
    have HG := Lib.hid hg
    clear hg
    go_enter Try.func67, Try.ntmps67
    go_wp2_with fail
    refine (thingOk_c _ _ _ _ _ _ h).mono ?_
    rintro e w' ⟨rfl, rfl⟩
    go_wp2_with fail
    refine (wayFrom_c _ _ _ _ _ _ h).mono ?_
    rintro e w1 ⟨v, rfl, hO, hb⟩
    rw [hwi] at hO
    obtain ⟨g, c1, rfl, hr⟩ := hO.some_ (by omega)
    rw [hlw] at hr ⊢
    have hrd := h.up hb
    have hcp := hr.cap
    have hmx := hr.max
    unfold maxLen at hmx
    go_wp2_with fail
    refine (tailOf_c _ _ _ _ _ _ hrd).mono ?_
    rintro e w2 ⟨rfl, hb2⟩
    rw [hti]
    have hr2 := (hr.up hb2).drop_ (k := tl f k) (by omega)
    have hbb := bt hb hb2
    clear hO hwi
    go_wp2_with fail
    refine (min_c _ _ _ _ _ hr2 (by omega)).mono ?_
    rintro e w3 ⟨rfl, r, rfl, ⟨j, hj, hjr⟩, hall⟩
    have hgd : ∀ i, gI ((ints (way f k)).drop (tl f k)) i = gI (ints (way f k)) (tl f k + i) := fun i => by unfold gI; simp [List.getD]
    rw [hgd, HG.out _ (by omega)] at hjr
    obtain rfl : r = ((it f (tl f k + j) k : Nat) : Int) := hjr.symm
    have hr := lo_eq hf (r := it f (tl f k + j) k) hk ⟨_, by omega, by omega, rfl⟩ (fun i h1 h2 => by
      have := hall (i - tl f k) (by omega)
      rw [hgd, show tl f k + (i - tl f k) = i by omega, HG.out i h2] at this
      omega)
    rw [hr]
    go_wp2_with fail
    go_ret
    exact ⟨intEnd HW.out.symm, hbb⟩
end Go.Proofs.Ytlbiioncpeondaa
