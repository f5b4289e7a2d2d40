/- Bundle V16. -/
import Derived.Deep.RegionHeld3
import Derived.Test.YtoinlkdmfclnbaaGreatDoorZV14
import Derived.Test.YtoinlkdmfclnbaaGreatDoorZV15
import Derived.Test.YtoinlkdmfclnbaaGreatDoorZV4
import Derived.Test.YtoinlkdmfclnbaaGreatDoorZV9
namespace Go.Proofs.YtoinlkdmfclnbaaGreatDoor
set_option linter.unusedVariables false
open Go.RowKit

/-- A deed in memory that may be written. -/
def FourF (w : World) (g : Nat) (kd a b : Int) (s : ByteArray) : Prop :=
  Four w g kd a b s ∧ w.frozen? ⟨g, 0, none⟩ = false ∧ w.frozen? ⟨g, 1, none⟩ = false ∧ w.frozen? ⟨g, 2, none⟩ = false ∧ w.frozen? ⟨g, 3, none⟩ = false
section
variable {w w' : World} {g B lo hi p : Nat} {kd a b : Int} {s : ByteArray}
theorem FourF.made (w : World) (T : TypeId) (kd a b : Int) (s : ByteArray) : FourF (w.alloc (.cells #[.int .i64 kd, .int .i64 a, .int .i64 b, .string s] T)) w.heap.size kd a b s := by
  have e := heap_alloc_new w (.cells #[.int .i64 kd, .int .i64 a, .int .i64 b, .string s] T)
  exact ⟨Four.made w T kd a b s, by simp only [World.frozen?, e]; simp, by simp only [World.frozen?, e]; simp, by simp only [World.frozen?, e]; simp, by simp only [World.frozen?, e]; simp⟩
theorem FourF.chg (h : FourF w g kd a b s) (hc : Chg lo hi w w') (hd : g < lo ∨ hi ≤ g) : FourF w' g kd a b s :=
  have e := hc.block g h.1.1 hd
  ⟨h.1.chg hc hd, (World.frozen?_of_block (w := w) (a := ⟨g, 0, none⟩) e).trans h.2.1, (World.frozen?_of_block (w := w) (a := ⟨g, 1, none⟩) e).trans h.2.2.1, (World.frozen?_of_block (w := w) (a := ⟨g, 2, none⟩) e).trans h.2.2.2.1, (World.frozen?_of_block (w := w) (a := ⟨g, 3, none⟩) e).trans h.2.2.2.2⟩
theorem FourF.dr (h : FourF w g kd a b s) : FourF w.drew g kd a b s := h
theorem FourF.up (h : FourF w g kd a b s) (hb : Below w.heap.size w w') : FourF w' g kd a b s := h.chg (lo := w.heap.size) (hi := w.heap.size) (Chg.of_below hb) (.inl h.1.1)
theorem Chg.dr {w a : World} (h : Chg lo hi w a) : Chg lo hi w a.drew := h.drewN 1
theorem FourF.set (h : FourF w g kd a b s) (x y z : Int) (u : ByteArray) : FourF ((((w.setCell ⟨g, 0, none⟩ (.int .i64 x)).setCell ⟨g, 1, none⟩ (.int .i64 y)).setCell ⟨g, 2, none⟩ (.int .i64 z)).setCell ⟨g, 3, none⟩ (.string u)) g x y z u := by
  obtain ⟨⟨h0, h1, h2, h3, h4⟩, f0, f1, f2, f3⟩ := h
  have far : ∀ (w : World) (i j : Nat) (v : Value), i ≠ j → (w.setCell ⟨g, i, none⟩ v).cell? ⟨g, j, none⟩ = w.cell? ⟨g, j, none⟩ := fun w i j v hij => World.cell?_setCell_other _ _ _ _ (by intro e; cases e; exact hij rfl)
  refine ⟨⟨by simpa using h0, ?_, ?_, ?_, ?_⟩, ?_, ?_, ?_, ?_⟩
  · rw [far _ 3 0 _ (by omega), far _ 2 0 _ (by omega), far _ 1 0 _ (by omega)]; exact World.cell?_setCell_same _ _ _ h1
  · rw [far _ 3 1 _ (by omega), far _ 2 1 _ (by omega)]; exact World.cell?_setCell_same _ _ _ ((far _ 0 1 _ (by omega)).trans h2)
  · rw [far _ 3 2 _ (by omega)]; exact World.cell?_setCell_same _ _ _ ((far _ 1 2 _ (by omega)).trans ((far _ 0 2 _ (by omega)).trans h3))
  · exact World.cell?_setCell_same _ _ _ ((far _ 2 3 _ (by omega)).trans ((far _ 1 3 _ (by omega)).trans ((far _ 0 3 _ (by omega)).trans h4)))
  all_goals
    simp only [World.frozen?_setCell]
    assumption
end
section
variable {w wx w' : World} {lo g q q' b : Nat} {kd a e : Int} {s : ByteArray}
end
end Go.Proofs.YtoinlkdmfclnbaaGreatDoor
namespace Go.Proofs.YtoinlkdmfclnbaaGreatDoor
set_option linter.unusedVariables false
open Go.RowKit

section
variable {w w' : World} {B lo a b n c m d : Nat} {A P : Option Addr} {xs : List Int} {yss : List (List Int)}
theorem Rd.chgF (h : Rd w w.heap.size A n c xs) (hA : ∀ q, (Value.slice A n c).ownBlock = some q → lo ≤ q) (hc : Chg a b w w') (hb : b ≤ lo) : Rd w' w'.heap.size A n c xs :=
  ⟨h.1, h.2.1, h.2.2.1, fun hn => by
    obtain ⟨k, off, e, hk, hcell⟩ := h.2.2.2 hn
    subst e
    have hl := hA k rfl
    exact ⟨k, off, rfl, Nat.lt_of_lt_of_le hk hc.size, fun j hj => (World.cell?_of_block (w := w) (a := ⟨k, off + j, none⟩) (hc.block k hk (.inr (by omega)))).trans (hcell j hj)⟩⟩
theorem RdD.chgF (h : RdD w w.heap.size A n c xs P m d yss) (hf : FreshD w lo A n c P m d) (hc : Chg a b w w') (hb : b ≤ lo) : RdD w' w'.heap.size A n c xs P m d yss :=
  ⟨h.1.chgF hf.1 hc hb, ⟨h.2.1, h.2.2.1, h.2.2.2.1, fun hn => by
    obtain ⟨k, off, e, hk, hcell⟩ := h.2.2.2.2 hn
    subst e
    have hl := hf.2.1 k rfl
    refine ⟨k, off, rfl, Nat.lt_of_lt_of_le hk hc.size, fun j hj => ?_⟩
    obtain ⟨A', n', c', h1, h2⟩ := hcell j hj
    exact ⟨A', n', c', (World.cell?_of_block (w := w) (a := ⟨k, off + j, none⟩) (hc.block k hk (.inr (by omega)))).trans h1, h2.chgF (hf.2.2 j k off A' n' c' hj rfl h1) hc hb⟩⟩⟩
theorem FreshD.chgF (hf : FreshD w lo A n c P m d) (h : RdD w w.heap.size A n c xs P m d yss) (hc : Chg a b w w') (hb : b ≤ lo) : FreshD w' lo A n c P m d :=
  ⟨hf.1, hf.2.1, fun k g off A' n' c' hk hP hcl q hq => by
    obtain ⟨k', off', e, hk', hcell⟩ := h.2.2.2.2 (by omega)
    rw [hP] at e
    cases e
    have hl := hf.2.1 g (by rw [hP]; rfl)
    have e2 := World.cell?_of_block (w := w) (a := ⟨g, off + k, none⟩) (hc.block g hk' (.inr (by omega)))
    exact hf.2.2 k g off A' n' c' hk hP (e2.symm.trans hcl) q hq⟩
theorem FreshD.upF (hf : FreshD w lo A n c P m d) (h : RdD w w.heap.size A n c xs P m d yss) (hb : Below w.heap.size w w') : FreshD w' lo A n c P m d :=
  ⟨hf.1, hf.2.1, fun k g off A' n' c' hk hP hcl q hq => by
    obtain ⟨k', off', e, hk', hcell⟩ := h.2.2.2.2 (by omega)
    rw [hP] at e
    cases e
    exact hf.2.2 k g off A' n' c' hk hP ((hb.cell (p := ⟨g, off + k, none⟩) hk').symm.trans hcl) q hq⟩
end
section
variable {w wr w' : World} {lo g q q' G n c m d : Nat} {A P : Option Addr} {xs : List Int} {yss : List (List Int)}
end
end Go.Proofs.YtoinlkdmfclnbaaGreatDoor
namespace Go.Proofs.YtoinlkdmfclnbaaGreatDoor
set_option linter.unusedVariables false
open Go.RowKit

section
variable {wr w6 : World} {lo g q Q1 n c m d g8 B : Nat} {A P : Option Addr} {xs : List Int} {yss : List (List Int)} {r3 : Bool}
end
end Go.Proofs.YtoinlkdmfclnbaaGreatDoor
namespace Go.Proofs.YtoinlkdmfclnbaaGreatDoor
set_option linter.unusedVariables false
open Go.RowKit

end Go.Proofs.YtoinlkdmfclnbaaGreatDoor
namespace Go.Proofs.YtoinlkdmfclnbaaGreatDoor
set_option linter.unusedVariables false
open Go.RowKit

/-- The value v is a slice of deeds of the call's own, from block B on. -/
def OwnW (w : World) (B : Nat) (v : Value) (ds : List Dd) : Prop := w.ownsRow B 55 4 v ds.length (flatD ds)
theorem OwnW.slice_ {w : World} {B : Nat} {v : Value} {ds : List Dd} (h : OwnW w B v ds) : ∃ A c, v = .slice A ds.length c ∧ OwnE w B w.heap.size A ds.length c ds := by
  rcases h.2 with ⟨rfl, h0⟩ | ⟨g, cap, cur, rfl, r⟩
  · exact ⟨none, 0, by rw [h0], rfl, ⟨h.1, .inl ⟨by rw [h0], h0⟩⟩, fun k hk => by cases hk⟩
  · refine ⟨_, _, rfl, rfl, ⟨h.1, .inr ⟨g, cap, cur, rfl, r⟩⟩, fun k hk => ?_⟩
    cases hk
    exact (Array.getElem?_eq_some_iff.1 r.2.1).1
end Go.Proofs.YtoinlkdmfclnbaaGreatDoor
namespace Go.Proofs.YtoinlkdmfclnbaaGreatDoor
set_option linter.unusedVariables false
open Go.RowKit

end Go.Proofs.YtoinlkdmfclnbaaGreatDoor
namespace Go.Proofs.YtoinlkdmfclnbaaGreatDoor
set_option linter.unusedVariables false
open Go.RowKit

end Go.Proofs.YtoinlkdmfclnbaaGreatDoor
namespace Go.Proofs.YtoinlkdmfclnbaaGreatDoor
set_option linter.unusedVariables false
open Go.RowKit

theorem RdD.up_ {w w' : World} {A P : Option Addr} {n c m d : Nat} {xs : List Int} {yss : List (List Int)} (h : RdD w w.heap.size A n c xs P m d yss) (hb : Below w.heap.size w w') : RdD w' w'.heap.size A n c xs P m d yss := ⟨h.1.up hb, h.2.up hb⟩
section
variable {wj wx : World} {A P : Option Addr} {n c m d g lo hi : Nat} {r1 : List Int} {r2 : List (List Int)} {r3 : Nat}
end
end Go.Proofs.YtoinlkdmfclnbaaGreatDoor
