/- Rows of rows of the call's own, and an append of one row as one step of a walk. · Walks: thingOk, walked, WayFrom (impl). · Walks: slices.Index at []int, WayFrom, TailOf, OnLoop (impl); the law FnLimitOf (walk). · Walks: the drawing and the law FnLimitOf (walk). · Walks: slices.Min at []int, LoopOf (impl). · Walks: LoopsOf, TreeOk (impl). -/
import Derived.ScopeJumps
import Derived.Test.YtnpjelekpkgbpaaDoorV5
import Derived.Test.YtnpjelekpkgbpaaDoorV2
import Derived.Test.YtnpjelekpkgbpaaDoorV4
import Derived.Test.YtnpjelekpkgbpaaDoorP
namespace Go.Proofs.YtnpjelekpkgbpaaDoor
set_option linter.unusedVariables false
open Go.RowKit

/-- The value v is a slice of slices of the call's own, from block B on, that holds the rows xss. -/
def OwnRR (w : World) (B : Nat) (v : Value) (xss : List (List Int)) : Prop :=
  ∃ vs : List Value, w.ownsRow B 49 1 v xss.length vs ∧ ∀ j, j < xss.length → ∃ A n c, vs[j]? = some (.slice A n c) ∧ OwnIn w B w.heap.size A n c (gR xss j)
theorem OwnRR.nil_ (w : World) (B : Nat) : OwnRR w B (.slice none 0 0) [] := ⟨[], World.ownsRow_nil _ _ _ _, fun j hj => absurd hj (Nat.not_lt_zero _)⟩
theorem OwnRR.made (w : World) (B : Nat) (hB : B ≤ w.heap.size) : OwnRR (w.alloc (.cells #[] 49)) B (.slice (some ⟨w.heap.size, 0, none⟩) 0 0) [] :=
  ⟨[], World.ownsRow_made w #[] 0 hB (Nat.zero_le _) (by simp), fun j hj => absurd hj (Nat.not_lt_zero _)⟩
theorem ownsRow_up {w w' : World} {B k n : Nat} {e : TypeId} {v : Value} {vs : List Value} (h : w.ownsRow B e k v n vs) (hb : Below w.heap.size w w') : w'.ownsRow B e k v n vs :=
  ⟨h.1, h.2.elim .inl fun ⟨g, cap, cur, e', hg, hh, r⟩ => .inr ⟨g, cap, cur, e', hg, by rw [hb.block g (Array.getElem?_eq_some_iff.1 hh).1]; exact hh, r⟩⟩
theorem OwnRR.up {w w' : World} {B : Nat} {v : Value} {xss : List (List Int)} (h : OwnRR w B v xss) (hb : Below w.heap.size w w') : OwnRR w' B v xss := by
  obtain ⟨vs, hv, hr⟩ := h
  refine ⟨vs, ownsRow_up hv hb, fun j hj => ?_⟩
  obtain ⟨A, n, c, e, hO⟩ := hr j hj
  exact ⟨A, n, c, e, (hO.up hb).wide (Nat.le_refl _) hb.size⟩
theorem OwnRR.dn {w : World} {B : Nat} {v : Value} {xss : List (List Int)} (h : OwnRR w B v xss) (m : Nat) : OwnRR (w.drewN m) B v xss := h
theorem OwnRR.form {w : World} {B : Nat} {v : Value} {xss : List (List Int)} (h : OwnRR w B v xss) : ∃ A c, v = .slice A xss.length c ∧ RdR w w.heap.size A xss.length c xss := by
  obtain ⟨vs, hv, hr⟩ := h
  rcases hv.2 with ⟨rfl, h0⟩ | ⟨g, cap, cur, rfl, hg, hh, h1, h2, h3, h4⟩
  · have : xss = [] := List.length_eq_zero_iff.1 h0
    subst this
    exact ⟨none, 0, rfl, RdR.nil_ _ _⟩
  · refine ⟨some ⟨g, 0, none⟩, cap, rfl, rfl, by first | exact h1 | omega, by first | exact h2 | omega, fun _ => ⟨g, 0, rfl, (Array.getElem?_eq_some_iff.1 hh).1, fun k hk => ?_⟩⟩
    obtain ⟨A, n, c, e, hO⟩ := hr k hk
    exact ⟨A, n, c, by rw [Nat.zero_add, hv.cellAt k (by omega)]; exact e, hO.rd⟩
/-- A row's block and the outer block bear different kinds. -/
theorem ne_outer {w : World} {B lo hi n c m : Nat} {v : Value} {A : Option Addr} {xs : List Int} {vs : List Value} (hv : w.ownsRow B 49 1 v m vs) (hO : OwnIn w lo hi A n c xs) :
    ∀ g, v.ownBlock = some g → (Value.slice A n c).ownBlock ≠ some g := by
  intro g hg hk
  have hO2 := hO.1.2.2
  rcases hv.2 with ⟨rfl, _⟩ | ⟨g1, cap, cur, rfl, _, hh, _⟩
  · cases hg
  rcases hO2 with ⟨e, _⟩ | ⟨g2, cap2, cur2, e, _, hh2, _⟩
  · rw [e] at hk; cases hk
  · rw [e] at hk
    cases hg; cases hk
    rw [hh] at hh2
    cases hh2
theorem OwnIn.grown {w w' : World} {lo hi n c : Nat} {A : Option Addr} {xs : List Int} {row : Option Nat} (h : OwnIn w lo hi A n c xs) (hg : w.grownBy w' row) (hne : ∀ g, row = some g → (Value.slice A n c).ownBlock ≠ some g) : OwnIn w' lo hi A n c xs := by
  refine ⟨⟨h.1.1, h.1.2.kept hg ?_⟩, h.2⟩
  rcases hr : (Value.slice A n c).ownBlock with _ | g
  · exact .inl rfl
  · right
    intro e
    exact hne g e.symm hr
end Go.Proofs.YtnpjelekpkgbpaaDoor
namespace Go.Proofs.YtnpjelekpkgbpaaDoor
set_option linter.unusedVariables false
open Go.RowKit

end Go.Proofs.YtnpjelekpkgbpaaDoor
namespace Go.Proofs.YtnpjelekpkgbpaaDoor
set_option linter.unusedVariables false
open Go.RowKit

def Idx (xs : List Int) (n : Nat) (v : Int) (w : World) (e : Ending) (w' : World) : Prop :=
  w = w' ∧ ((e = .returned (.int .i64 (-1)) ∧ ∀ j, j < n → gI xs j ≠ v) ∨ ∃ j : Nat, j < n ∧ e = .returned (.int .i64 j) ∧ gI xs j = v ∧ ∀ i, i < j → gI xs i ≠ v)
def tailI (xs : List Int) (t : Int) : Int := if atOk xs t then (tl (toN xs) t.toNat : Int) else -1
theorem tailI_ok {f : List Nat} {k : Nat} (hf : MapN f) (hk : k < f.length) : tailI (ints f) (k : Int) = (tl f k : Int) := by
  unfold tailI; rw [if_pos (atOk_ints hf hk), toN_ints]; simp
theorem tailI_no {xs : List Int} {t : Int} (h : atOk xs t = false) : tailI xs t = -1 := by unfold tailI; rw [h]; simp
def Way (xs : List Int) (t : Int) (w : World) (e : Ending) (w' : World) : Prop := ∃ v, e = .returned v ∧ OwnV w' w.heap.size v (wayI xs t) ∧ Below w.heap.size w w'
end Go.Proofs.YtnpjelekpkgbpaaDoor
namespace Go.Proofs.YtnpjelekpkgbpaaDoor
set_option linter.unusedVariables false
open Go.RowKit

end Go.Proofs.YtnpjelekpkgbpaaDoor
namespace Go.Proofs.YtnpjelekpkgbpaaDoor
set_option linter.unusedVariables false
open Go.RowKit

def MinOut (xs : List Int) (n : Nat) (w : World) (e : Ending) (w' : World) : Prop :=
  w = w' ∧ ∃ r : Int, e = .returned (.int .i64 r) ∧ (∃ j, j < n ∧ gI xs j = r) ∧ ∀ j, j < n → r ≤ gI xs j
theorem Rd.drop_ {w : World} {B g n c k : Nat} {xs : List Int} (h : Rd w B (some ⟨g, 0, none⟩) n c xs) (hk : k ≤ n) : Rd w B (some ⟨g, k, none⟩) (n - k) (c - k) (xs.drop k) := by
  refine ⟨by rw [List.length_drop, h.len], by have := h.cap; omega, by have := h.max; omega, fun hp => ?_⟩
  obtain ⟨b, off, e, hb, hc⟩ := h.2.2.2 (by omega)
  cases e
  refine ⟨g, k, rfl, hb, fun j hj => ?_⟩
  have := hc (k + j) (by omega)
  rw [Nat.zero_add] at this
  rw [this]; unfold gI; simp [List.getD]
def loopI (xs : List Int) (t : Int) : Int := if atOk xs t then (lo (toN xs) t.toNat : Int) else -1
theorem loopI_ok {f : List Nat} {k : Nat} (hf : MapN f) (hk : k < f.length) : loopI (ints f) (k : Int) = (lo f k : Int) := by
  unfold loopI; rw [if_pos (atOk_ints hf hk), toN_ints]; simp
theorem loopI_no {xs : List Int} {t : Int} (h : atOk xs t = false) : loopI xs t = -1 := by unfold loopI; rw [h]; simp
theorem OwnV.some_ {w : World} {B : Nat} {v : Value} {xs : List Int} (h : OwnV w B v xs) (h0 : 0 < xs.length) : ∃ g c, v = .slice (some ⟨g, 0, none⟩) xs.length c ∧ Rd w w.heap.size (some ⟨g, 0, none⟩) xs.length c xs := by
  obtain ⟨A, c, rfl, ho⟩ := h.form
  obtain ⟨g, rfl⟩ := ho.inn.some_ h0
  exact ⟨g, c, rfl, ho.rd⟩
end Go.Proofs.YtnpjelekpkgbpaaDoor
namespace Go.Proofs.YtnpjelekpkgbpaaDoor
set_option linter.unusedVariables false
open Go.RowKit

def loopsI (xs : List Int) : List (List Int) := if mapOk xs then loopsN (toN xs) else []
theorem loopsI_ok {f : List Nat} (hf : MapN f) : loopsI (ints f) = loopsN f := by unfold loopsI; rw [if_pos (mapOk_ints hf), toN_ints]
theorem loopsI_no {xs : List Int} (h : mapOk xs = false) : loopsI xs = [] := by unfold loopsI; rw [h]; simp
def Rows (xss : List (List Int)) (w : World) (e : Ending) (w' : World) : Prop := ∃ v, e = .returned v ∧ OwnRR w' w.heap.size v xss ∧ Below w.heap.size w w'
theorem OwnV.inn {w : World} {B : Nat} {A : Option Addr} {n c : Nat} {xs : List Int} (h : Own w B A n c xs) : OwnIn w B w.heap.size A n c xs := h.inn
end Go.Proofs.YtnpjelekpkgbpaaDoor
