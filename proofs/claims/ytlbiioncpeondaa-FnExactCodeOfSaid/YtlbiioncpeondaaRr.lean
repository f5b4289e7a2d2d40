/- Words for rows of rows of numbers, and walks over them: eqIntSS, szIntS, szIntSS, toIntSS (laws). -/
import Derived.Test.YtlbiioncpeondaaW5
import Derived.Test.YtlbiioncpeondaaApp
namespace Go.Proofs.Ytlbiioncpeondaa
set_option linter.unusedVariables false
open Go.RowKit

def gR (xss : List (List Int)) (k : Nat) : List Int := xss.getD k []
theorem gR_get {xss : List (List Int)} {k : Nat} (hk : k < xss.length) : gR xss k = xss[k] := by simp [gR, List.getD, List.getElem?_eq_getElem hk]
theorem eq_of_gR {xss yss : List (List Int)} (hl : xss.length = yss.length) (h : ∀ k, k < xss.length → gR xss k = gR yss k) : xss = yss := by
  apply List.ext_getElem hl
  intro k h1 h2
  have := h k h1
  rwa [gR_get h1, gR_get h2] at this
/-- The slice value '.slice A n c' reads as the rows xss, below block B. -/
def RdR (w : World) (B : Nat) (A : Option Addr) (n c : Nat) (xss : List (List Int)) : Prop :=
  xss.length = n ∧ n ≤ c ∧ c ≤ maxLen ∧ (0 < n → ∃ b off, A = some ⟨b, off, none⟩ ∧ b < B ∧ ∀ k, k < n → ∃ A' n' c', w.cell? ⟨b, off + k, none⟩ = some (.slice A' n' c') ∧ Rd w B A' n' c' (gR xss k))
section
variable {w w' : World} {B B' n c : Nat} {A : Option Addr} {xss : List (List Int)}
theorem RdR.len (h : RdR w B A n c xss) : xss.length = n := h.1
theorem RdR.cap (h : RdR w B A n c xss) : n ≤ c := h.2.1
theorem RdR.max (h : RdR w B A n c xss) : c ≤ maxLen := h.2.2.1
theorem RdR.at_ (h : RdR w B A n c xss) {k : Nat} (hk : k < n) : ∃ b off A' n' c', A = some ⟨b, off, none⟩ ∧ b < B ∧ w.cell? ⟨b, off + k, none⟩ = some (.slice A' n' c') ∧ Rd w B A' n' c' (gR xss k) := by
  obtain ⟨b, off, e, hb, hc⟩ := h.2.2.2 (by omega)
  obtain ⟨A', n', c', h1, h2⟩ := hc k hk
  exact ⟨b, off, A', n', c', e, hb, h1, h2⟩
theorem RdR.nil_ (w : World) (B : Nat) : RdR w B none 0 0 [] := ⟨rfl, Nat.le_refl _, Nat.zero_le _, fun h => absurd h (by omega)⟩
theorem RdR.keep (h : RdR w B A n c xss) (hk : ∀ p : Addr, p.block < B → w'.cell? p = w.cell? p) : RdR w' B A n c xss :=
  ⟨h.1, h.2.1, h.2.2.1, fun hn => by
    obtain ⟨b, off, e, hb, hc⟩ := h.2.2.2 hn
    refine ⟨b, off, e, hb, fun k hk' => ?_⟩
    obtain ⟨A', n', c', h1, h2⟩ := hc k hk'
    exact ⟨A', n', c', (hk _ hb).trans h1, h2.keep hk⟩⟩
theorem RdR.more (h : RdR w B A n c xss) (hB : B ≤ B') : RdR w B' A n c xss :=
  ⟨h.1, h.2.1, h.2.2.1, fun hn => by
    obtain ⟨b, off, e, hb, hc⟩ := h.2.2.2 hn
    refine ⟨b, off, e, by omega, fun k hk' => ?_⟩
    obtain ⟨A', n', c', h1, h2⟩ := hc k hk'
    exact ⟨A', n', c', h1, h2.more hB⟩⟩
theorem RdR.below (h : RdR w B A n c xss) (hb : Below B w w') : RdR w' B A n c xss := h.keep fun _ hp => hb.cell hp
theorem RdR.up (h : RdR w w.heap.size A n c xss) (hb : Below w.heap.size w w') : RdR w' w'.heap.size A n c xss := (h.below hb).more hb.size
theorem RdR.dn (h : RdR w w.heap.size A n c xss) (m : Nat) : RdR (w.drewN m) (w.drewN m).heap.size A n c xss := h.keep fun _ _ => rfl
end

/-- A callee that draws, met in a quiet region. -/
theorem qQ {P : Program} {f : FuncId} {args : Array Value} {w : World} {n : Nat} {v : Value}
    (h : Calls P f args (w.drewN n) fun e w' => e = .returned v ∧ ∃ m, w' = (w.drewN n).drewN m) : Calls P f args (w.drewN n) fun e w'' => e = .returned v ∧ ∃ m, w'' = w.drewN m :=
  h.mono fun _ _ ⟨he, m, hm⟩ => ⟨he, _, hm.trans (World.drewN_drewN ..)⟩
theorem qA {P : Program} {f : FuncId} {args : Array Value} {w : World} {a n : Nat} {v : Value}
    (h : Calls P f args (w.drewN (a + n)) fun e w' => e = .returned v ∧ ∃ m, w' = (w.drewN (a + n)).drewN m) : Calls P f args (w.drewN (a + n)) fun e w'' => e = .returned v ∧ ∃ m, w'' = w.drewN (a + m) :=
  h.mono fun _ _ ⟨he, m, hm⟩ => ⟨he, n + m, by rw [hm, World.drewN_drewN, Nat.add_assoc]⟩
def eqBB (xss yss : List (List Int)) : Bool := decide (xss = yss)
/-! ### sizes -/
def SzS (n : Nat) (left : Int) (w : World) (e : Ending) (w' : World) : Prop :=
  ∃ r : Int, e = .returned (.int .i64 r) ∧ w = w' ∧ -1 ≤ r ∧ r ≤ left ∧ (0 ≤ r → (n : Int) ≤ left)
def SzSS (xss : List (List Int)) (left : Int) (w : World) (e : Ending) (w' : World) : Prop :=
  ∃ r : Int, e = .returned (.int .i64 r) ∧ w = w' ∧ -1 ≤ r ∧ r ≤ left ∧ (0 ≤ r → (xss.length : Int) ≤ left ∧ ∀ k, k < xss.length → ((gR xss k).length : Int) ≤ left)
end Go.Proofs.Ytlbiioncpeondaa
