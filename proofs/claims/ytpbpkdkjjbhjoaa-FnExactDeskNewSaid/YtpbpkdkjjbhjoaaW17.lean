/- Walks: l20Set (spec). -/
import Derived.Test.YtpbpkdkjjbhjoaaW16
import Derived.Deep.RegionWith
import Derived.Deep.RegionHeld3
import Derived.Outline
namespace Go.Proofs.Ytpbpkdkjjbhjoaa
set_option linter.unusedVariables false
open Go.RowKit

/-- pick at a number from 1 on. -/
def PickedP (w : World) (lo g p : Nat) (m : Int) (e : Ending) (w' : World) : Prop :=
  ∃ x : Nat, e = .returned (.int .i64 x) ∧ (x : Int) < m ∧ Rdr w' lo g (p + 1) ∧ Chg g (g + 1) w w'
theorem pickP_c (g lo p : Nat) (m : Int) (w : World) (h : Rdr w lo g p) (hp : p ≤ 1000000000) (hm : m ≤ 1000000000) (h1 : 1 ≤ m) :
    Calls Try.prog 79 #[.pointer (some ⟨g, 0, none⟩), .int .i64 m] w (PickedP w lo g p m) :=
  (pick_c g lo p m w h hp hm).mono fun e w' ⟨x, he, hx, hr, hc⟩ => ⟨x, he, hx h1, hr, hc⟩

def Any (w : World) : Prop := w = w
theorem any_ (w : World) : Any w := rfl
theorem tm_ex (x D : Nat) (h1 : 1 ≤ D) (h2 : D ≤ 128) : ∃ r : Nat, (x : Int).tmod (D : Int) = (r : Int) ∧ IntKind.i64.wrap (r : Int) = (r : Int) ∧ (r : Int) ≤ 128 := by
  have h := Nat.mod_lt x (show 0 < D by omega)
  refine ⟨x % D, ?_, IntWalk.i64_in _ (by omega), by omega⟩
  rw [Int.tmod_eq_emod_of_nonneg (by omega)]; simp

def SetDrawn (w : World) (lo g p : Nat) (e : Ending) (w' : World) : Prop :=
  ∃ (A : Option Addr) (n c : Nat) (xs : List Int) (s : Int), e = .returned (.tuple #[.slice A n c, .int .i64 s]) ∧ OwnIn w' w.heap.size w'.heap.size A n c xs ∧ Drawn xs ∧ Rdr w' lo g (p + 40) ∧ Chg g (g + 1) w w'

set_option maxRecDepth 100000 in
set_option maxHeartbeats 3200000 in
theorem set_c (g lo p n : Nat) (w : World) (h : Rdr w lo g p) (hp : p ≤ 1000000) (hn : n ≤ 1000000) :
    Calls Try.prog 59 #[.pointer (some ⟨g, 0, none⟩), .int .i64 (n : Int)] w (SetDrawn w lo g p) := by
  go_enter Try.func59, Try.ntmps59
  go_wp2_with fail
  refine (map_c g lo p 7 n _ h (by omega) hn (by omega) (by omega)).mono ?_
  rintro e w1 ⟨A, k, c, xs, rfl, hO, hD, hr, hc⟩
  have hgl := h.lt
  have hr1 : Rdr w1.drew lo g (p + 30) := hr.dn 1
  have hl8 : k ≤ 8 := by have := hO.len; have := hD.1; omega
  obtain ⟨M, hM⟩ : ∃ M : Nat, M = max k 1 := ⟨_, rfl⟩
  obtain ⟨S, hS⟩ : ∃ S : Nat, S = min M 7 := ⟨_, rfl⟩
  have hmx : (if (k : Int) < 1 then (1 : Int) else (k : Int)) = (M : Int) := by split <;> omega
  have hmn : (if (7 : Int) < (M : Int) then (7 : Int) else (M : Int)) = (S : Int) := by split <;> omega
  have hS7 : S ≤ 7 := by omega
  obtain ⟨D, hD2⟩ : ∃ D : Nat, D = 2 ^ S := ⟨_, rfl⟩
  have h2 := two_le hS7
  have hpw : (2 : Int) ^ S = (D : Int) := by rw [castPow, hD2]
  have hd0 : ((D : Int) = 0) = False := by simp; omega
  have hd00 : (D = 0) = False := by simp; omega
  have hd01 : ((D : Int) == 0) = false := by rw [beq_eq_false_iff_ne]; omega
  have hd1 : 1 ≤ D ∧ D ≤ 128 := by omega
  have hwD : IntKind.i64.wrap (D : Int) = (D : Int) := IntWalk.i64_in _ (by omega)
  obtain ⟨hd1, hd2⟩ := hd1
  clear h2 hD2 hS hM
  go_wp2_with fail
  go_region_held3 (fun w' => Any w') (exact any_ _) (first
    | (go_at_call_of 79 (Value.int IntKind.i64 128); refine (pickP_c g lo (p + 30) 128 _ hr1 (by omega) (by omega) (by omega)).mono ?_; rintro e w2 ⟨x2, rfl, hx2, hr2, hc2⟩; obtain ⟨r2, hm2, hw2, hb2⟩ := tm_ex x2 D hd1 hd2)
    | (go_at_call_of 79 (Value.int IntKind.i64 30); refine (pickP_c g lo (p + 30 + 1) 30 _ hr2 (by omega) (by omega) (by omega)).mono ?_; rintro e w3 ⟨x3, rfl, hx3, hr3, hc3⟩)
    | (go_at_call_of 79 (Value.int IntKind.i64 40); refine (pickP_c g lo (p + 30 + 1 + 1) 40 _ hr3 (by omega) (by omega) (by omega)).mono ?_; rintro e w4 ⟨x4, rfl, hx4, hr4, hc4⟩))
  all_goals
    have HCA := (((hc.drewN 1).chg_ hc2 (.inr ⟨Nat.le_refl _, Nat.le_refl _⟩)).chg_ hc3 (.inr ⟨Nat.le_refl _, Nat.le_refl _⟩)).chg_ hc4 (.inr ⟨Nat.le_refl _, Nat.le_refl _⟩)
    have HOA := (((hO.dn 1).chg hc2 (.inr (by omega))).chg hc3 (.inr (by omega))).chg hc4 (.inr (by omega))
    have hs1 : w1.heap.size ≤ w4.heap.size := Nat.le_trans hc2.size (Nat.le_trans hc3.size hc4.size)
    have HA := Lib.hid HCA
    have HB := Lib.hid (HOA.wide (Nat.le_refl _) hs1)
    have HR := Lib.hid hr4
    clear HCA HOA hs1 hc hc2 hc3 hc4 hO hr hr1 hr2 hr3 hr4 hmx hmn hpw hd0 hd00 hd01 hwD hm2 hw2
    go_wp2
    go_ret2
    exact ⟨_, _, _, _, _, rfl, HB.out, hD, HR.out.more (by omega), HA.out⟩
end Go.Proofs.Ytpbpkdkjjbhjoaa
