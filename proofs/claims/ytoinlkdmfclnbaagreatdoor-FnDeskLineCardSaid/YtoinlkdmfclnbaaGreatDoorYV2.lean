/- Bundle V2. -/
import Derived.Outline
import Derived.Deep.LoopGhost
import Derived.WalkMore
import Derived.Test.YtoinlkdmfclnbaaGreatDoorYP
import Derived.Test.YtoinlkdmfclnbaaGreatDoorYQ
import Derived.Test.YtoinlkdmfclnbaaGreatDoorYV1
namespace Go.Proofs.YtoinlkdmfclnbaaGreatDoor
set_option linter.unusedVariables false
section
open Go.RowKit
end
section
open Go.RowKit
theorem even_bit (m t : Nat) : (((m : Int) / 2 ^ t).tmod 2 == 0) = !m.testBit t := by
 have h := odd_bit m t
 have h0 : (0 : Int) ≤ (m : Int) / 2 ^ t := Int.ediv_nonneg (by omega) (by rw [castPow]; exact Int.natCast_nonneg _)
 rw [Int.tmod_eq_emod_of_nonneg h0] at h ⊢
 rw [← h]
 have := Int.emod_two_eq ((m : Int) / 2 ^ t)
 rcases this with e | e <;> simp [e]
def atOk (xs : List Int) (t : Int) : Bool := mapOk xs && hasB xs.length t
def wayI (xs : List Int) (t : Int) : List Int := if atOk xs t then ints (way (toN xs) t.toNat) else []
theorem atOk_ex {xs : List Int} {t : Int} (h : atOk xs t = true) : ∃ f k, xs = ints f ∧ t = ((k : Nat) : Int) ∧ MapN f ∧ k < f.length := by
 unfold atOk at h
 rw [Bool.and_eq_true, hasB_iff] at h
 obtain ⟨h1, h2, h3⟩ := h
 obtain ⟨f, rfl, hf⟩ := mapOk_ex h1
 obtain ⟨k, rfl⟩ := Int.eq_ofNat_of_zero_le h2
 refine ⟨f, k, rfl, rfl, hf, ?_⟩
 rw [ints_len] at h3; omega
theorem atOk_ints {f : List Nat} {k : Nat} (hf : MapN f) (hk : k < f.length) : atOk (ints f) (k : Int) = true := by
 unfold atOk; rw [mapOk_ints hf, Bool.true_and, hasB_iff, ints_len]; omega
theorem wayI_ok {f : List Nat} {k : Nat} (hf : MapN f) (hk : k < f.length) : wayI (ints f) (k : Int) = ints (way f k) := by
 unfold wayI; rw [if_pos (atOk_ints hf hk), toN_ints]; simp
theorem wayI_no {xs : List Int} {t : Int} (h : atOk xs t = false) : wayI xs t = [] := by unfold wayI; rw [h]; simp
set_option maxHeartbeats 800000 in
theorem sWayFrom_ok (A : Option Addr) (c : Nat) (f : List Nat) (k : Nat) (w : World) (h : Rd w w.heap.size A f.length c (ints f)) (hf : MapN f) (hk : k < f.length) :
    Calls Tryz.prog 64 #[.slice A f.length c, .int .i64 k] w fun e w' => ∃ v, e = .returned v ∧ OwnV w' w.heap.size v (ints (way f k)) ∧ Below w.heap.size w w' := by
 have h7 := hf.le7
 have hin : inB (k : Int) 0 ((f.length : Int) - 1) = true := by rw [inB_iff]; omega
 have hmo := mapOk_ints hf
 go_enter Tryz.func64, Tryz.ntmps64
 go_wp2_with fail
 have hB0 : Below w.heap.size w (w.alloc (Obj.cells #[] 3)) := (Below.refl _ _).alloc (Nat.le_refl _) _
 have hO0 := OwnV.made w w.heap.size #[] (Nat.le_refl _) rfl
 generalize w.alloc (Obj.cells #[] 3) = w0 at hB0 hO0 ⊢
 have h0 := h.up hB0
 go_wp2_with (first
  | (go_at_call 67; refine (sMapOk_c _ _ _ _ _ h0).mono ?_; rintro e w' ⟨rfl, rfl⟩)
  | (go_at_call 129; refine (l1In_c _ _ _ _).mono ?_; rintro e w' ⟨rfl, rfl⟩))
 go_loopw [5, 6, 7] (fun o s t wr => ∃ i : Nat, i ≤ f.length ∧ OwnV wr w.heap.size o (ints (orb f k i)) ∧ s = .int .i64 ((seenK f k i : Nat) : Int) ∧ t = .int .i64 ((it f i k : Nat) : Int) ∧ (orb f k i).Nodup ∧ Below w.heap.size w wr) (fun o s t _ => 128 - (intOf s).toNat)
 case atStart => exact ⟨0, Nat.zero_le _, hO0, rfl, rfl, by simp [orb], hB0⟩
 case round =>
  obtain ⟨i, hi, hown, rfl, rfl, hnd, hbw⟩ := hrel
  have hx := it_lt hf hk i
  have hs7 : seenK f k i < 128 := by have := seenK_lt hf hk i; have := (two_le h7).2; omega
  have hob := even_bit (seenK f k i) (it f i k)
  have hsr := shr_bit (seenK f k i) (it f i k)
  have HN := Lib.hid hnd
  clear hnd
  by_cases hb : it f i k ∈ orb f k i
  · have hbt : (seenK f k i).testBit (it f i k) = true := (seenK_bit f k _ i).2 hb
    have HB := Lib.hid hb
    clear hb
    go_wp2
    go_ret
    have hpos : 1 ≤ i := by
     rcases Nat.eq_zero_or_pos i with h | h
     · subst h; have := HB.out; simp [orb] at this
     · exact h
    exact ⟨_, rfl, by rw [way, ← way_done hf hk hpos HN.out HB.out]; exact hown, hbw⟩
  · have hbt : (seenK f k i).testBit (it f i k) = false := by
     rcases e : (seenK f k i).testBit (it f i k) with _ | _
     · rfl
     · exact absurd ((seenK_bit f k _ i).1 e) hb
    obtain ⟨b, off, rfl, hbb, hcell0⟩ := h.at_ hx
    have hcell1 : w.cell? ⟨b, off + it f i k, none⟩ = some (.int .i64 ((nx f (it f i k) : Nat) : Int)) := by rw [hcell0, gI_ints]
    clear hcell0
    have h2 := two_le (k := it f i k) (by omega)
    have hi1 : (1 : Int) ≤ 2 ^ it f i k := by rw [castPow]; omega
    have hi2 : (2 : Int) ^ it f i k ≤ 128 := by rw [castPow]; omega
    have hor : bits .or .i64 ((seenK f k i : Nat) : Int) (2 ^ it f i k) = ((seenK f k i ||| 2 ^ it f i k : Nat) : Int) := by
     rw [castPow]; exact bits_or _ _ (by omega) (by omega)
    have HG := Lib.hid (seenK_grow hb)
    have HD := Lib.hid (orb_nodup_succ HN.out hb)
    have hle := orb_le hf hk HD.out
    have hlen : (ints (orb f k i)).length ≤ 1000000000000 := by rw [ints_len, orb_len]; omega
    have HBW := Lib.hid hbw
    clear h2 hb
    go_wp2_with (at_builtin; go_loud (refine app_int wr _ rfl _ _ rfl w.heap.size _ (ints (orb f k i)) rfl hown rfl hlen hbw.size ?_); intro v' w' hown' hb'; have hcell := (hb'.cell (p := ⟨b, off + it f i k, none⟩) hbb).trans ((HBW.out.cell (p := ⟨b, off + it f i k, none⟩) hbb).trans hcell1))
    go_roundw
    case rel => exact ⟨i + 1, hle, by rw [ints_orb_succ]; exact hown', rfl, rfl, HD.out, hbw.trans hb'⟩
    case measure => have := HG.out; rw [seenK] at this; simp [intOf]; omega
end
section
open Go.RowKit
end
section
open Go.RowKit
end
end Go.Proofs.YtoinlkdmfclnbaaGreatDoor
