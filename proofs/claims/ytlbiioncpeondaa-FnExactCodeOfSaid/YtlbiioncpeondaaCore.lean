/- Words for memory that all walks of this seat share: a slice that reads as a list of numbers, a slice that the call itself owns. -/
import Derived.WalkKit
import Derived.WalkSpells
import Derived.WalkLawsBesides
import Derived.Lib.Hide
import Derived.Below
import Derived.Laws.OwnMore
import Derived.Deep.AppendLies
import Derived.Deep.Draws
namespace Go.Proofs.Ytlbiioncpeondaa
set_option linter.unusedVariables false
open Go.RowKit

/-- The number at place k (0 past the end); the walk's simp does not look behind the name. -/
def gI (xs : List Int) (k : Nat) : Int := xs.getD k 0

/-- The slice value '.slice A n c' reads as the numbers xs, below block B. -/
def Rd (w : World) (B : Nat) (A : Option Addr) (n c : Nat) (xs : List Int) : Prop :=
  xs.length = n ∧ n ≤ c ∧ c ≤ maxLen ∧ (0 < n → ∃ b off, A = some ⟨b, off, none⟩ ∧ b < B ∧ ∀ k, k < n → w.cell? ⟨b, off + k, none⟩ = some (.int .i64 (gI xs k)))

/-- The slice value '.slice A n c' is nil or lies at the head of a row of the call's own, from block B on, and holds the numbers xs. -/
def Own (w : World) (B : Nat) (A : Option Addr) (n c : Nat) (xs : List Int) : Prop :=
  xs.length = n ∧ w.ownsRow B 3 1 (.slice A n c) n (xs.map (Value.int .i64))

section
variable {w w' : World} {B B' n c : Nat} {A : Option Addr} {xs : List Int}
theorem Rd.len (h : Rd w B A n c xs) : xs.length = n := h.1
theorem Rd.cap (h : Rd w B A n c xs) : n ≤ c := h.2.1
theorem Rd.max (h : Rd w B A n c xs) : c ≤ maxLen := h.2.2.1
theorem Rd.at_ (h : Rd w B A n c xs) {k : Nat} (hk : k < n) : ∃ b off, A = some ⟨b, off, none⟩ ∧ b < B ∧ w.cell? ⟨b, off + k, none⟩ = some (.int .i64 (gI xs k)) := by
  obtain ⟨b, off, e, hb, hc⟩ := h.2.2.2 (by omega)
  exact ⟨b, off, e, hb, hc k hk⟩
theorem Rd.nil_ (w : World) (B : Nat) : Rd w B none 0 0 [] := ⟨rfl, Nat.le_refl _, Nat.zero_le _, fun h => absurd h (by omega)⟩
theorem Rd.keep (h : Rd w B A n c xs) (hk : ∀ p : Addr, p.block < B → w'.cell? p = w.cell? p) : Rd w' B A n c xs :=
  ⟨h.1, h.2.1, h.2.2.1, fun hn => by
    obtain ⟨b, off, e, hb, hc⟩ := h.2.2.2 hn
    exact ⟨b, off, e, hb, fun k hk' => (hk _ hb).trans (hc k hk')⟩⟩
theorem Rd.more (h : Rd w B A n c xs) (hB : B ≤ B') : Rd w B' A n c xs :=
  ⟨h.1, h.2.1, h.2.2.1, fun hn => by
    obtain ⟨b, off, e, hb, hc⟩ := h.2.2.2 hn
    exact ⟨b, off, e, by omega, hc⟩⟩
theorem Rd.below (h : Rd w B A n c xs) (hb : Below B w w') : Rd w' B A n c xs := h.keep fun _ hp => hb.cell hp
theorem Rd.up (h : Rd w w.heap.size A n c xs) (hb : Below w.heap.size w w') : Rd w' w'.heap.size A n c xs := (h.below hb).more hb.size
theorem Rd.dn (h : Rd w w.heap.size A n c xs) (m : Nat) : Rd (w.drewN m) (w.drewN m).heap.size A n c xs := h.keep fun _ _ => rfl
theorem Own.len (h : Own w B A n c xs) : xs.length = n := h.1
theorem Own.row (h : Own w B A n c xs) : w.ownsRow B 3 1 (.slice A n c) n (xs.map (Value.int .i64)) := h.2
theorem Own.rd (h : Own w B A n c xs) : Rd w w.heap.size A n c xs := by
  obtain ⟨h1, h2, h3⟩ := h
  rcases h3 with ⟨e, rfl⟩ | ⟨g, cap, cur, e, hb, hg, hnc, hcm, hcs, ht⟩
  · cases e
    exact ⟨h1, Nat.le_refl _, Nat.zero_le _, fun h => absurd h (by omega)⟩
  · cases e
    refine ⟨h1, hnc, hcm, fun _ => ⟨g, 0, rfl, (Array.getElem?_eq_some_iff.1 hg).1, fun k hk => ?_⟩⟩
    have hown : w.ownsRow B 3 1 (.slice (some ⟨g, 0, none⟩) n c) n (xs.map (Value.int .i64)) := ⟨h2, .inr ⟨g, c, cur, rfl, hb, hg, hnc, hcm, hcs, ht⟩⟩
    have := hown.cellAt k (by omega)
    rw [Nat.zero_add, this]
    have hk' : k < xs.length := by omega
    simp [gI, List.getD, List.getElem?_eq_getElem hk']
end

theorem bt {w a b : World} (h : Below w.heap.size w a) (k : Below a.heap.size a b) : Below w.heap.size w b := h.trans (k.mono h.size)
theorem bd {B : Nat} {w a : World} (h : Below B w a) (m : Nat) : Below B w (a.drewN m) := ⟨h.os, h.tape, h.output, h.size, h.block⟩

/-- A callee that leaves the world alone, met in a quiet region. -/
theorem qS {P : Program} {f : FuncId} {args : Array Value} {w : World} {n : Nat} {v : Value}
    (h : Calls P f args (w.drewN n) fun e w' => e = .returned v ∧ w.drewN n = w') : Calls P f args (w.drewN n) fun e w'' => e = .returned v ∧ ∃ m, w'' = w.drewN m :=
  h.mono fun _ _ ⟨he, hm⟩ => ⟨he, n, hm.symm⟩
end Go.Proofs.Ytlbiioncpeondaa
