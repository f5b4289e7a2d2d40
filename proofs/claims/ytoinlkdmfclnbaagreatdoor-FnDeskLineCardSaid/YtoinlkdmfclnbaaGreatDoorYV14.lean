/- Bundle V14. -/
import Derived.Test.YtoinlkdmfclnbaaGreatDoorYV15
namespace Go.Proofs.YtoinlkdmfclnbaaGreatDoor
set_option linter.unusedVariables false
section
open Go.RowKit
abbrev Dd := Int × Int × Int × ByteArray
def dZ : Dd := (0, 0, 0, ⟨#[]⟩)
def dG (ds : List Dd) (k : Nat) : Dd := ds.getD k dZ
def dK (ds : List Dd) (k : Nat) : Int := (dG ds k).1
def dA (ds : List Dd) (k : Nat) : Int := (dG ds k).2.1
def dB (ds : List Dd) (k : Nat) : Int := (dG ds k).2.2.1
def dS (ds : List Dd) (k : Nat) : ByteArray := (dG ds k).2.2.2
theorem dG_get {ds : List Dd} {k : Nat} (h : k < ds.length) : dG ds k = ds[k] := by simp [dG, List.getD, List.getElem?_eq_getElem h]
def RdE (w : World) (B : Nat) (A : Option Addr) (n c : Nat) (ds : List Dd) : Prop :=
 ds.length = n ∧ n ≤ c ∧ c ≤ maxLen ∧ (0 < n → ∃ b off, A = some ⟨b, off, none⟩ ∧ b < B ∧ ∀ k, k < n →
  w.cell? ⟨b, off + k * 4, none⟩ = some (.int .i64 (dK ds k)) ∧ w.cell? ⟨b, off + k * 4 + 1, none⟩ = some (.int .i64 (dA ds k)) ∧ w.cell? ⟨b, off + k * 4 + 2, none⟩ = some (.int .i64 (dB ds k)) ∧ w.cell? ⟨b, off + k * 4 + 3, none⟩ = some (.string (dS ds k)))
section
variable {w w' : World} {B B' n c : Nat} {A : Option Addr} {ds : List Dd}
theorem RdE.len (h : RdE w B A n c ds) : ds.length = n := h.1
theorem RdE.cap (h : RdE w B A n c ds) : n ≤ c := h.2.1
theorem RdE.max (h : RdE w B A n c ds) : c ≤ maxLen := h.2.2.1
theorem RdE.at_ (h : RdE w B A n c ds) {k : Nat} (hk : k < n) : ∃ b off, A = some ⟨b, off, none⟩ ∧ b < B ∧
    w.cell? ⟨b, off + k * 4, none⟩ = some (.int .i64 (dK ds k)) ∧ w.cell? ⟨b, off + k * 4 + 1, none⟩ = some (.int .i64 (dA ds k)) ∧ w.cell? ⟨b, off + k * 4 + 2, none⟩ = some (.int .i64 (dB ds k)) ∧ w.cell? ⟨b, off + k * 4 + 3, none⟩ = some (.string (dS ds k)) := by
 obtain ⟨b, off, e, hb, hc⟩ := h.2.2.2 (by omega)
 exact ⟨b, off, e, hb, hc k hk⟩
theorem RdE.nil_ (w : World) (B : Nat) : RdE w B none 0 0 [] := ⟨rfl, Nat.le_refl _, Nat.zero_le _, fun h => absurd h (by omega)⟩
theorem RdE.keep (h : RdE w B A n c ds) (hk : ∀ p : Addr, p.block < B → w'.cell? p = w.cell? p) : RdE w' B A n c ds :=
 ⟨h.1, h.2.1, h.2.2.1, fun hn => by
  obtain ⟨b, off, e, hb, hc⟩ := h.2.2.2 hn
  refine ⟨b, off, e, hb, fun k hk' => ?_⟩
  obtain ⟨h1, h2, h3, h4⟩ := hc k hk'
  exact ⟨(hk _ hb).trans h1, (hk _ hb).trans h2, (hk _ hb).trans h3, (hk _ hb).trans h4⟩⟩
theorem RdE.more (h : RdE w B A n c ds) (hB : B ≤ B') : RdE w B' A n c ds :=
 ⟨h.1, h.2.1, h.2.2.1, fun hn => by
  obtain ⟨b, off, e, hb, hc⟩ := h.2.2.2 hn
  exact ⟨b, off, e, by omega, hc⟩⟩
theorem RdE.below (h : RdE w B A n c ds) (hb : Below B w w') : RdE w' B A n c ds := h.keep fun _ hp => hb.cell hp
theorem RdE.up (h : RdE w w.heap.size A n c ds) (hb : Below w.heap.size w w') : RdE w' w'.heap.size A n c ds := (h.below hb).more hb.size
end
def flatD (ds : List Dd) : List Value := ds.flatMap fun d => [.int .i64 d.1, .int .i64 d.2.1, .int .i64 d.2.2.1, .string d.2.2.2]
theorem flatD_cons (d : Dd) (ds : List Dd) : flatD (d :: ds) = .int .i64 d.1 :: .int .i64 d.2.1 :: .int .i64 d.2.2.1 :: .string d.2.2.2 :: flatD ds := rfl
theorem flatD_len (ds : List Dd) : (flatD ds).length = ds.length * 4 := by
 induction ds with
 | nil => rfl
 | cons d r ih => rw [flatD_cons]; simp only [List.length_cons, ih]; omega
theorem flatD_app (ds es : List Dd) : flatD (ds ++ es) = flatD ds ++ flatD es := by simp [flatD]
theorem flatD_at : ∀ (ds : List Dd) (k : Nat), k < ds.length → (flatD ds)[k * 4]? = some (.int .i64 (dK ds k)) ∧ (flatD ds)[k * 4 + 1]? = some (.int .i64 (dA ds k)) ∧ (flatD ds)[k * 4 + 2]? = some (.int .i64 (dB ds k)) ∧ (flatD ds)[k * 4 + 3]? = some (.string (dS ds k))
 | [], k, h => by simp at h
 | d :: r, 0, _ => by rw [flatD_cons]; exact ⟨rfl, rfl, rfl, rfl⟩
 | d :: r, k + 1, h => by
  have := flatD_at r k (by simpa using h)
  rw [flatD_cons, show (k + 1) * 4 = k * 4 + 4 by omega]
  exact this
def OwnE (w : World) (lo hi : Nat) (A : Option Addr) (n c : Nat) (ds : List Dd) : Prop :=
 ds.length = n ∧ w.ownsRow lo 55 4 (.slice A n c) n (flatD ds) ∧ ∀ k, (Value.slice A n c).ownBlock = some k → k < hi
section
variable {lo hi lo' hi' B n c g : Nat} {w w' : World} {A : Option Addr} {ds : List Dd}
theorem OwnE.cell (h : OwnE w lo hi (some ⟨g, 0, none⟩) n c ds) {k : Nat} (hk : k < n) :
    w.cell? ⟨g, k * 4, none⟩ = some (.int .i64 (dK ds k)) ∧ w.cell? ⟨g, k * 4 + 1, none⟩ = some (.int .i64 (dA ds k)) ∧ w.cell? ⟨g, k * 4 + 2, none⟩ = some (.int .i64 (dB ds k)) ∧ w.cell? ⟨g, k * 4 + 3, none⟩ = some (.string (dS ds k)) := by
 obtain ⟨h1, h2, h3, h4⟩ := flatD_at ds k (by rw [h.1]; exact hk)
 exact ⟨(h.2.1.cellAt _ (by omega)).trans h1, (h.2.1.cellAt _ (by omega)).trans h2, (h.2.1.cellAt _ (by omega)).trans h3, (h.2.1.cellAt _ (by omega)).trans h4⟩
theorem OwnE.rd (h : OwnE w lo hi A n c ds) : RdE w w.heap.size A n c ds := by
 rcases h.2.1.2 with ⟨e, rfl⟩ | ⟨g, cap, cur, e, hb, hg, hnc, hcm, hcs, ht⟩
 · cases e
   exact ⟨h.1, Nat.le_refl _, Nat.zero_le _, fun h => absurd h (by omega)⟩
 · cases e
   refine ⟨h.1, hnc, hcm, fun _ => ⟨g, 0, rfl, (Array.getElem?_eq_some_iff.1 hg).1, fun k hk => ?_⟩⟩
   have := h.cell hk
   simpa using this
end
end
section
open Go.RowKit
theorem deed_info : (Tryz.prog.info? 55).map (fun i => (i.zero, i.size, i.bytes)) = some (some (.agg #[.int .i64 0, .int .i64 0, .int .i64 0, .string ⟨#[]⟩]), 4, 40) := by kernel_rfl
end
section
open Go.RowKit
end
section
open Go.RowKit
section
variable {lo hi n c g : Nat} {w w' : World} {A : Option Addr} {vs : List Value} {ds : List Dd}
end
end
section
open Go.RowKit
end
section
open Go.RowKit
end
section
open Go.RowKit
section
variable {wj wx : World} {A P : Option Addr} {n c m d g lo hi : Nat} {r1 : List Int} {r2 : List (List Int)} {r3 : Bool}
end
theorem RdR.setB {w : World} {B n c : Nat} {A : Option Addr} {xss : List (List Int)} (h : RdR w B A n c xss) {p : Addr} {A' : Option Addr} {n' c' : Nat} (hp : w.cell? p = some (.slice A' n' c')) (hb : ∀ q, (Value.slice A n c).ownBlock = some q → q ≠ p.block) (v : Value) : RdR (w.setCell p v) B A n c xss :=
 ⟨h.1, h.2.1, h.2.2.1, fun hn => by
  obtain ⟨b, off, e, hbB, hc⟩ := h.2.2.2 hn
  subst e
  refine ⟨b, off, rfl, hbB, fun k hk => ?_⟩
  obtain ⟨A1, n1, c1, h1, h2⟩ := hc k hk
  refine ⟨A1, n1, c1, ?_, h2.set_ hp v⟩
  rw [World.cell?_setCell_other _ _ _ _ (by intro e'; exact hb b rfl (by rw [e']))]
  exact h1⟩
end
end Go.Proofs.YtoinlkdmfclnbaaGreatDoor
