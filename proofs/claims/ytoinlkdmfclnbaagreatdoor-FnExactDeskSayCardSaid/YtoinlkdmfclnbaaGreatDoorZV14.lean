/- Bundle V14. -/
import Derived.Test.YtoinlkdmfclnbaaGreatDoorZV15
namespace Go.Proofs.YtoinlkdmfclnbaaGreatDoor
set_option linter.unusedVariables false
open Go.RowKit

abbrev Dd := Int × Int × Int × ByteArray
def dZ : Dd := (0, 0, 0, ⟨#[]⟩)
def dG (ds : List Dd) (k : Nat) : Dd := ds.getD k dZ
def dK (ds : List Dd) (k : Nat) : Int := (dG ds k).1
def dA (ds : List Dd) (k : Nat) : Int := (dG ds k).2.1
def dB (ds : List Dd) (k : Nat) : Int := (dG ds k).2.2.1
def dS (ds : List Dd) (k : Nat) : ByteArray := (dG ds k).2.2.2
theorem dG_get {ds : List Dd} {k : Nat} (h : k < ds.length) : dG ds k = ds[k] := by simp [dG, List.getD, List.getElem?_eq_getElem h]
/-- The slice value reads as the deeds ds, below block B. -/
def RdE (w : World) (B : Nat) (A : Option Addr) (n c : Nat) (ds : List Dd) : Prop :=
  ds.length = n ∧ n ≤ c ∧ c ≤ maxLen ∧ (0 < n → ∃ b off, A = some ⟨b, off, none⟩ ∧ b < B ∧ ∀ k, k < n →
    w.cell? ⟨b, off + k * 4, none⟩ = some (.int .i64 (dK ds k)) ∧ w.cell? ⟨b, off + k * 4 + 1, none⟩ = some (.int .i64 (dA ds k)) ∧ w.cell? ⟨b, off + k * 4 + 2, none⟩ = some (.int .i64 (dB ds k)) ∧ w.cell? ⟨b, off + k * 4 + 3, none⟩ = some (.string (dS ds k)))
section
variable {w w' : World} {B B' n c : Nat} {A : Option Addr} {ds : List Dd}
theorem RdE.len (h : RdE w B A n c ds) : ds.length = n := h.1
theorem RdE.cap (h : RdE w B A n c ds) : n ≤ c := h.2.1
theorem RdE.max (h : RdE w B A n c ds) : c ≤ maxLen := h.2.2.1
theorem RdE.at_ (h : RdE w B A n c ds) {k : Nat} (hk : k < n) : ∃ b off, A = some ⟨b, off, none⟩ ∧ b < B ∧
    w.cell? ⟨b, off + k * 4, none⟩ = some (.int .i64 (dK ds k)) ∧ w.cell? ⟨b, off + k * 4 + 1, none⟩ = some (.int .i64 (dA ds k)) ∧ w.cell? ⟨b, off + k * 4 + 2, none⟩ = some (.int .i64 (dB ds k)) ∧ w.cell? ⟨b, off + k * 4 + 3, none⟩ = some (.string (dS ds k)) := by
  obtain ⟨b, off, e, hb, hc⟩ := h.2.2.2 (by omega)
  exact ⟨b, off, e, hb, hc k hk⟩
theorem RdE.nil_ (w : World) (B : Nat) : RdE w B none 0 0 [] := ⟨rfl, Nat.le_refl _, Nat.zero_le _, fun h => absurd h (by omega)⟩
theorem RdE.keep (h : RdE w B A n c ds) (hk : ∀ p : Addr, p.block < B → w'.cell? p = w.cell? p) : RdE w' B A n c ds :=
  ⟨h.1, h.2.1, h.2.2.1, fun hn => by
    obtain ⟨b, off, e, hb, hc⟩ := h.2.2.2 hn
    refine ⟨b, off, e, hb, fun k hk' => ?_⟩
    obtain ⟨h1, h2, h3, h4⟩ := hc k hk'
    exact ⟨(hk _ hb).trans h1, (hk _ hb).trans h2, (hk _ hb).trans h3, (hk _ hb).trans h4⟩⟩
theorem RdE.more (h : RdE w B A n c ds) (hB : B ≤ B') : RdE w B' A n c ds :=
  ⟨h.1, h.2.1, h.2.2.1, fun hn => by
    obtain ⟨b, off, e, hb, hc⟩ := h.2.2.2 hn
    exact ⟨b, off, e, by omega, hc⟩⟩
theorem RdE.below (h : RdE w B A n c ds) (hb : Below B w w') : RdE w' B A n c ds := h.keep fun _ hp => hb.cell hp
theorem RdE.up (h : RdE w w.heap.size A n c ds) (hb : Below w.heap.size w w') : RdE w' w'.heap.size A n c ds := (h.below hb).more hb.size
end
/-- the deeds' values, one behind the other -/
def flatD (ds : List Dd) : List Value := ds.flatMap fun d => [.int .i64 d.1, .int .i64 d.2.1, .int .i64 d.2.2.1, .string d.2.2.2]
theorem flatD_cons (d : Dd) (ds : List Dd) : flatD (d :: ds) = .int .i64 d.1 :: .int .i64 d.2.1 :: .int .i64 d.2.2.1 :: .string d.2.2.2 :: flatD ds := rfl
theorem flatD_len (ds : List Dd) : (flatD ds).length = ds.length * 4 := by
  induction ds with
  | nil => rfl
  | cons d r ih => rw [flatD_cons]; simp only [List.length_cons, ih]; omega
theorem flatD_app (ds es : List Dd) : flatD (ds ++ es) = flatD ds ++ flatD es := by simp [flatD]
theorem flatD_at : ∀ (ds : List Dd) (k : Nat), k < ds.length → (flatD ds)[k * 4]? = some (.int .i64 (dK ds k)) ∧ (flatD ds)[k * 4 + 1]? = some (.int .i64 (dA ds k)) ∧ (flatD ds)[k * 4 + 2]? = some (.int .i64 (dB ds k)) ∧ (flatD ds)[k * 4 + 3]? = some (.string (dS ds k))
  | [], k, h => by simp at h
  | d :: r, 0, _ => by rw [flatD_cons]; exact ⟨rfl, rfl, rfl, rfl⟩
  | d :: r, k + 1, h => by
    have := flatD_at r k (by simpa using h)
    rw [flatD_cons, show (k + 1) * 4 = k * 4 + 4 by omega]
    exact this
/-- A row of deeds of the call's own whose block lies from lo on, and below hi. -/
def OwnE (w : World) (lo hi : Nat) (A : Option Addr) (n c : Nat) (ds : List Dd) : Prop :=
  ds.length = n ∧ w.ownsRow lo 55 4 (.slice A n c) n (flatD ds) ∧ ∀ k, (Value.slice A n c).ownBlock = some k → k < hi
section
variable {lo hi lo' hi' B n c g : Nat} {w w' : World} {A : Option Addr} {ds : List Dd}
theorem OwnE.cell (h : OwnE w lo hi (some ⟨g, 0, none⟩) n c ds) {k : Nat} (hk : k < n) :
    w.cell? ⟨g, k * 4, none⟩ = some (.int .i64 (dK ds k)) ∧ w.cell? ⟨g, k * 4 + 1, none⟩ = some (.int .i64 (dA ds k)) ∧ w.cell? ⟨g, k * 4 + 2, none⟩ = some (.int .i64 (dB ds k)) ∧ w.cell? ⟨g, k * 4 + 3, none⟩ = some (.string (dS ds k)) := by
  obtain ⟨h1, h2, h3, h4⟩ := flatD_at ds k (by rw [h.1]; exact hk)
  exact ⟨(h.2.1.cellAt _ (by omega)).trans h1, (h.2.1.cellAt _ (by omega)).trans h2, (h.2.1.cellAt _ (by omega)).trans h3, (h.2.1.cellAt _ (by omega)).trans h4⟩
theorem OwnE.rd (h : OwnE w lo hi A n c ds) : RdE w w.heap.size A n c ds := by
  rcases h.2.1.2 with ⟨e, rfl⟩ | ⟨g, cap, cur, e, hb, hg, hnc, hcm, hcs, ht⟩
  · cases e
    exact ⟨h.1, Nat.le_refl _, Nat.zero_le _, fun h => absurd h (by omega)⟩
  · cases e
    refine ⟨h.1, hnc, hcm, fun _ => ⟨g, 0, rfl, (Array.getElem?_eq_some_iff.1 hg).1, fun k hk => ?_⟩⟩
    have := h.cell hk
    simpa using this
end
end Go.Proofs.YtoinlkdmfclnbaaGreatDoor
namespace Go.Proofs.YtoinlkdmfclnbaaGreatDoor
set_option linter.unusedVariables false
open Go.RowKit

theorem deed_info : (Tryz.prog.info? 55).map (fun i => (i.zero, i.size, i.bytes)) = some (some (.agg #[.int .i64 0, .int .i64 0, .int .i64 0, .string ⟨#[]⟩]), 4, 40) := by kernel_rfl
/-! ### equal deeds -/
end Go.Proofs.YtoinlkdmfclnbaaGreatDoor
namespace Go.Proofs.YtoinlkdmfclnbaaGreatDoor
set_option linter.unusedVariables false
open Go.RowKit

/-! ### texts of marks -/
/-- the digits of a number, none of nought -/
def digS : Nat → ByteArray
  | 0 => ⟨#[]⟩
  | k + 1 => digS ((k + 1) / 10) ++ dig ((k + 1) % 10)
decreasing_by omega
def mkT (k : Nat) : ByteArray := ⟨#[109]⟩ ++ digS k
theorem digS_pos {k : Nat} (h : 0 < k) : digS k = digS (k / 10) ++ dig (k % 10) := by
  obtain ⟨j, rfl⟩ : ∃ j, k = j + 1 := ⟨k - 1, by omega⟩
  rw [digS]
theorem digS_size : ∀ (n k : Nat), k ≤ n → (digS k).size ≤ k
  | 0, k, h => by
    obtain rfl : k = 0 := by omega
    simp [digS]; rfl
  | n + 1, k, h => by
    rcases Nat.eq_zero_or_pos k with h0 | h0
    · subst h0; simp [digS]; rfl
    · rw [digS_pos h0, ByteArray.size_append]
      have := digS_size n (k / 10) (by omega)
      have e : (dig (k % 10)).size = 1 := rfl
      omega
set_option maxRecDepth 100000 in
set_option maxHeartbeats 1600000 in
theorem markText_c (k : Nat) (w : World) (h0 : 0 < k) (h1 : k ≤ 1000000000000) :
    Calls Tryz.prog 79 #[.int .i64 (k : Int)] w fun e w' => e = .returned (.string (mkT k)) ∧ Below w.heap.size w w' := by
  have hq : ¬ ((k : Int) ≤ 0) := by omega
  have HK := digS_size k k (Nat.le_refl _)
  have HT : Hid (mkT k = ⟨#[109]⟩ ++ digS k) := Lib.hid rfl
  generalize mkT k = T at *
  go_enter Tryz.func79, Tryz.ntmps79
  go_wp2_with fail
  go_loopw [0, 3] (fun t o wr => ∃ (j : Nat) (s : ByteArray), j ≤ k ∧ t = .int .i64 (j : Int) ∧ o = .string s ∧ digS j ++ s = digS k ∧ Below w.heap.size w wr) (fun t _ _ => (intOf t).toNat)
  case atStart => exact ⟨k, ⟨#[]⟩, Nat.le_refl _, rfl, rfl, ByteArray.append_empty, Below.refl _ _⟩
  case round =>
    obtain ⟨j, s, hj, rfl, rfl, he, hbw⟩ := hrel
    have hsz : (digS j).size + s.size = (digS k).size := by rw [← he, ByteArray.size_append]
    have HE := Lib.hid he
    clear he
    by_cases hlt : 0 < j
    · obtain ⟨d, hd⟩ : ∃ d : Nat, j % 10 = d := ⟨_, rfl⟩
      have hmod : (j : Int) % 10 = (d : Int) := by omega
      have hd9 : d ≤ 9 := by omega
      have HD : Hid (digS j = digS (j / 10) ++ dig d) := Lib.hid (by rw [digS_pos hlt, hd])
      have hwr : IntKind.u8.wrap (48 + (d : Int)) = 48 + (d : Int) := (by decide : ∀ d : Fin 10, IntKind.u8.wrap (48 + ((d : Nat) : Int)) = 48 + ((d : Nat) : Int)) ⟨d, by omega⟩
      have hb : Below wr.heap.size wr (wr.alloc (.cells #[.int .u8 (48 + (d : Int))] 5)) := (Below.refl _ _).alloc (Nat.le_refl _) _
      have kc : (convert 22 9 (.slice (some ⟨wr.heap.size, 0, none⟩) 1 1)).run Tryz.prog (wr.alloc (.cells #[.int .u8 (48 + (d : Int))] 5)) = .ok (.string (dig d)) (wr.alloc (.cells #[.int .u8 (48 + (d : Int))] 5)) :=
        Lib.run_convert_whole (P := Tryz.prog) _ 22 5 9 Tryz.underlying22 Tryz.underlying5 Tryz.underlying9 wr.heap.size 0 (dig d) (dig_bytes d _ _ hd9 ((World.cell?_alloc_at _ _ _ _ rfl).trans rfl)) 1
      have hna : ¬ (9223372036854775807 < (dig d).size + s.size) := by rw [show (dig d).size = 1 from rfl]; omega
      have hB3 := bt hbw hb
      clear hd hb
      go_wp2_with fail
      go_roundw
      case rel => exact ⟨j / 10, dig d ++ s, by omega, by rw [Int.natCast_ediv]; rfl, rfl, by rw [← HE.out, HD.out, ByteArray.append_assoc], hB3⟩
      case measure => simp [intOf]; omega
    · have hj0 : j = 0 := by omega
      have HS : Hid (s = digS k) := Lib.hid (by rw [← HE.out, hj0, digS]; exact ByteArray.empty_append.symm)
      have hna : ¬ (9223372036854775807 < (⟨#[109]⟩ : ByteArray).size + s.size) := by rw [show (⟨#[109]⟩ : ByteArray).size = 1 from rfl]; omega
      clear hj0
      go_wp2_with fail
      go_ret
      rw [HT.out, ← HS.out]
      exact ⟨rfl, hbw⟩
end Go.Proofs.YtoinlkdmfclnbaaGreatDoor
namespace Go.Proofs.YtoinlkdmfclnbaaGreatDoor
set_option linter.unusedVariables false
open Go.RowKit

section
variable {lo hi n c g : Nat} {w w' : World} {A : Option Addr} {vs : List Value} {ds : List Dd}
end
end Go.Proofs.YtoinlkdmfclnbaaGreatDoor
namespace Go.Proofs.YtoinlkdmfclnbaaGreatDoor
set_option linter.unusedVariables false
open Go.RowKit

end Go.Proofs.YtoinlkdmfclnbaaGreatDoor
namespace Go.Proofs.YtoinlkdmfclnbaaGreatDoor
set_option linter.unusedVariables false
open Go.RowKit

end Go.Proofs.YtoinlkdmfclnbaaGreatDoor
namespace Go.Proofs.YtoinlkdmfclnbaaGreatDoor
set_option linter.unusedVariables false
open Go.RowKit

section
variable {wj wx : World} {A P : Option Addr} {n c m d g lo hi : Nat} {r1 : List Int} {r2 : List (List Int)} {r3 : Bool}
end
end Go.Proofs.YtoinlkdmfclnbaaGreatDoor
