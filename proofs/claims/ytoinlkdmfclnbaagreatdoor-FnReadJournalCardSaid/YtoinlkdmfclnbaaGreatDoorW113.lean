/- Walk: l20Map of the reference where it is never none. Printed by gen_w113.py. -/
import Derived.Test.YtoinlkdmfclnbaaGreatDoorV4
namespace Go.Proofs.YtoinlkdmfclnbaaGreatDoor
set_option linter.unusedVariables false
open Go.RowKit

def MapDrawn0 (w : World) (lo g p : Nat) (e : Ending) (w' : World) : Prop :=
  ∃ (A : Option Addr) (n c : Nat) (xs : List Int), e = .returned (.slice A n c) ∧ OwnIn w' w.heap.size w'.heap.size A n c xs ∧ (1 ≤ n ∧ n ≤ 7) ∧ Rdr w' lo g (p + 30) ∧ Chg g (g + 1) w w'
theorem odd0_c (g lo p : Nat) (w : World) (h : Rdr w lo g p) :
    Calls Tryz.prog 70 #[.pointer (some ⟨g, 0, none⟩), .int .i64 0] w fun e w' => e = .returned (.bool false) ∧ Rdr w' lo g (p + 1) ∧ Chg g (g + 1) w w' := by
  go_enter Tryz.func70, Tryz.ntmps70
  go_wp2
  go_ret
  exact ⟨rfl, h.more (by omega), Chg.refl _ _ _⟩
set_option maxRecDepth 100000 in
set_option maxHeartbeats 6400000 in
theorem map0_c (g lo p most : Nat) (w : World) (h : Rdr w lo g p) (hp : p ≤ 1000000) (h1 : 1 ≤ most) (h7 : most ≤ 7) :
    Calls Tryz.prog 95 #[.pointer (some ⟨g, 0, none⟩), .int .i64 (most : Int), .int .i64 0] w (MapDrawn0 w lo g p) := by
  have hgl := h.lt
  have hlog := h.lo
  go_enter Tryz.func95, Tryz.ntmps95
  go_wp2_with fail
  refine (pick_c g lo p most _ h (by omega) (by omega)).mono ?_
  rintro e w1 ⟨x, rfl, hx, hr1, hc1⟩
  have hx' : x < most := by have := hx (by omega); omega
  clear hx
  go_wp2_with fail
  have hsz1 := hc1.size
  have hO2 := OwnV.made w1 w.heap.size #[] (by omega) rfl
  have hc2 := hc1.allocNew (Obj.cells #[] 3)
  have hr2 := hr1.up ((Below.refl w1.heap.size w1).alloc (Nat.le_refl _) (Obj.cells #[] 3))
  generalize w1.alloc (Obj.cells #[] 3) = w2 at hO2 hc2 hr2 ⊢
  generalize w1.heap.size = G1 at hO2 ⊢
  clear hsz1 hr1 hc1 w1
  go_loopw [8, 9] (fun o i wr => ∃ (k : Nat) (xs : List Int), k ≤ x + 1 ∧ i = .int .i64 k ∧ OwnV wr w.heap.size o xs ∧ xs.length = k ∧ (∀ y ∈ xs, 0 ≤ y ∧ y ≤ 7) ∧ Rdr wr lo g (p + 1 + k) ∧ Chg g (g + 1) w wr) (fun o i _ => x + 1 - (intOf i).toNat)
  case atStart => exact ⟨0, [], Nat.zero_le _, rfl, hO2, rfl, by simp, hr2, hc2⟩
  case round =>
    obtain ⟨k, xs, hk, rfl, hO, hl, hb, hr, hc⟩ := hrel
    clear hO2 hc2 hr2
    by_cases hlt : k < x + 1
    · have HL := Lib.hid hl
      have HBd := Lib.hid hb
      have HO := Lib.hid hO
      have HC := Lib.hid hc
      clear hl hb hO hc
      go_wp2_with fail
      refine (pick_c g lo (p + 1 + k) _ _ hr (by omega) (by omega)).mono ?_
      rintro e w3 ⟨y, rfl, hy, hr3, hc3⟩
      have hy' : (y : Int) ≤ 7 := by have := hy (by omega); omega
      have hO3 := HO.out.chg hc3 (by omega)
      have hC3 := HC.out.chg_ hc3 (.inr ⟨Nat.le_refl _, Nat.le_refl _⟩)
      have hs3 := hC3.size
      have HR3 := Lib.hid hr3
      have HC3 := Lib.hid hC3
      have hlen : xs.length ≤ 1000000000000 := by have := HL.out; omega
      clear hr3 hc3 hr hC3 hy
      go_wp2_with (at_builtin; refine app_int w3 _ rfl _ _ rfl w.heap.size _ xs rfl hO3 rfl hlen hs3 ?_; intro v' w' hown' hb')
      go_roundw
      case rel => exact ⟨k + 1, xs ++ [(y : Int)], by omega, by go_num, hown', by rw [List.length_append, HL.out]; rfl, by
        intro z hz
        rw [List.mem_append, List.mem_singleton] at hz
        rcases hz with hz | rfl
        · exact HBd.out z hz
        · omega, (HR3.out.below hb' hgl).more (by omega), HC3.out.then_ hb'⟩
      case measure => simp [intOf]; omega
    · obtain rfl : k = x + 1 := by omega
      obtain ⟨A, c, rfl, hown⟩ := hO.form
      rw [hl] at hown ⊢
      have hin := hown.inn
      obtain ⟨G, rfl⟩ := hin.some_ (by omega)
      have hGlo : w.heap.size ≤ G := (hin.lt G rfl).1
      have hcap := hown.rd.cap
      have hmax := hown.rd.max
      unfold maxLen at hmax
      have hin1 : OwnIn wr w.heap.size (G + 1) (some ⟨G, 0, none⟩) (x + 1) c xs := ⟨hin.1, fun k hk => by cases hk; exact Nat.lt_succ_self _⟩
      clear hO hown hin
      go_wp2_with fail
      refine (pick_c g lo (p + 1 + (x + 1)) 3 _ hr (by omega) (by omega)).mono ?_
      rintro e w5 ⟨y5, rfl, hy5, hr5, hc5⟩
      have HC := hc.chg_ hc5 (.inr ⟨Nat.le_refl _, Nat.le_refl _⟩)
      have HO := hin1.chg hc5 (.inr (by omega))
      have HR := hr5
      have HD := hb
      clear hr hc hin1 hr5 hc5 hb
      have hcase : y5 = 0 ∨ y5 ≠ 0 := by omega
      rcases hcase with h0 | h0
      · subst h0
        go_wp2_with fail
        go_loopw [10] (fun i wr => ∃ (k : Nat) (ys : List Int), k ≤ x + 1 ∧ i = .int .i64 k ∧ OwnIn wr w.heap.size (G + 1) (some ⟨G, 0, none⟩) (x + 1) c ys ∧ (∀ y ∈ ys, 0 ≤ y ∧ y ≤ 7) ∧ Rdr wr lo g (p + 1 + (x + 1) + 1 + k) ∧ Chg g (g + 1) w wr) (fun i _ => x + 1 - (intOf i).toNat)
        case atStart => exact ⟨0, xs, Nat.zero_le _, rfl, HO, HD, HR, HC⟩
        case round =>
          clear HO HD HR HC hl xs
          obtain ⟨k, ys, hk, rfl, HO, HD, HR, HC⟩ := hrel
          by_cases hlt : k < x + 1
          · go_wp2_with fail
            refine (pick_c g lo (p + 1 + (x + 1) + 1 + k) _ _ HR (by omega) (by omega)).mono ?_
            rintro e w6 ⟨t, rfl, ht, hr6, hc6⟩
            have ht' : t ≤ k := by have := ht (by omega); omega
            have HC6 := HC.chg_ hc6 (.inr ⟨Nat.le_refl _, Nat.le_refl _⟩)
            have HO6 := HO.chg hc6 (.inr (by omega))
            have hlen := HO6.len
            have hca := HO6.cell (j := t) (by omega)
            have hck := HO6.cell (j := k) (by omega)
            have hfk := HO6.frozen k
            have hgt := forall_gI HD (k := t) (by omega)
            have HOa := HO6.store k (gI ys t)
            have hcb := HOa.1.cell (j := t) (by omega)
            have hfb := HOa.1.frozen t
            have HOb := HOa.1.store t (k : Int)
            have hsz := HC6.size
            have HRb := Lib.hid ((hr6.chg HOa.2 (by omega) (.inl (by omega))).chg HOb.2 (by omega) (.inl (by omega)))
            have HCb := Lib.hid ((HC6.chg_ HOa.2 (.inl (by omega))).chg_ HOb.2 (.inl (by omega)))
            have HObh := Lib.hid HOb.1
            have HDb := Lib.hid (forall_set (k := t) (u := (k : Int)) (forall_set (k := k) HD hgt) (by omega))
            clear HO HR HC hr6 hc6 HC6 HO6 HOa HOb HD ht hlen
            go_wp2_with fail
            go_roundw
            case rel => exact ⟨k + 1, _, by omega, by go_num, HObh.out, HDb.out, HRb.out.more (by omega), HCb.out⟩
            case measure => simp [intOf]; omega
          · obtain rfl : k = x + 1 := by omega
            go_wp2_with fail
            refine (odd0_c g lo (p + 1 + (x + 1) + 1 + (x + 1)) _ HR).mono ?_
            rintro e w7 ⟨rfl, hr7, hc7⟩
            have HC7 := HC.chg_ hc7 (.inr ⟨Nat.le_refl _, Nat.le_refl _⟩)
            have HO7 := HO.chg hc7 (.inr (by omega))
            clear HC HO HR hc7
            go_wp2_with fail
            go_ret
            exact ⟨_, _, _, _, rfl, HO7.wide (Nat.le_refl _) (by have := (HO7.lt G rfl).2.2; omega), ⟨by have := HO7.len; omega, by have := HO7.len; omega⟩, hr7.more (by omega), HC7⟩
      · have hq : ((y5 : Int) == 0) = false := by rw [beq_eq_false_iff_ne]; omega
        go_wp2_with fail
        refine (odd0_c g lo (p + 1 + (x + 1) + 1) _ HR).mono ?_
        rintro e w7 ⟨rfl, hr7, hc7⟩
        have HC7 := HC.chg_ hc7 (.inr ⟨Nat.le_refl _, Nat.le_refl _⟩)
        have HO7 := HO.chg hc7 (.inr (by omega))
        clear HC HO HR hc7
        go_wp2_with fail
        go_ret
        exact ⟨_, _, _, _, rfl, HO7.wide (Nat.le_refl _) (by have := (HO7.lt G rfl).2.2; omega), ⟨by have := HO7.len; omega, by have := HO7.len; omega⟩, hr7.more (by omega), HC7⟩
end Go.Proofs.YtoinlkdmfclnbaaGreatDoor
