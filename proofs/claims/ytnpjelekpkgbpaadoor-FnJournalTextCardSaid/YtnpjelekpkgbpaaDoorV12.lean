/- Walks: slices.Delete at rows (the first of nine), and DeskDo of the program. · Walks: DeskDo of the program. Printed by gen_w80.py. · Walk: DeskDo of the program, whole. -/
import Derived.Lib.OwnBridge
import Derived.Test.YtnpjelekpkgbpaaDoorV10
import Derived.Test.YtnpjelekpkgbpaaDoorSh
namespace Go.Proofs.YtnpjelekpkgbpaaDoor
set_option linter.unusedVariables false
open Go.RowKit Go.Sort

abbrev SlT := Option Addr × Nat × Nat
def encS (t : SlT) : Value := .slice t.1 t.2.1 t.2.2
theorem encS_all : ∀ (vs : List Value), (∀ j, j < vs.length → ∃ A n c, vs[j]? = some (.slice A n c)) → ∃ ts : List SlT, vs = ts.map encS
  | [], _ => ⟨[], rfl⟩
  | v :: vs, h => by
    obtain ⟨A, n, c, e⟩ := h 0 (by simp)
    simp at e
    obtain ⟨ts, rfl⟩ := encS_all vs (fun j hj => by
      obtain ⟨A, n, c, e⟩ := h (j + 1) (by simpa using hj)
      exact ⟨A, n, c, by simpa using e⟩)
    exact ⟨(A, n, c) :: ts, by rw [e]; rfl⟩
theorem grownBy_putRow {α : Type} [Inhabited α] {enc : α → Value} {w : World} {g q : Nat} (d : Array α) : w.grownBy (putRow enc (Sort.ahead w q) g 0 d) (some g) := by
  refine ⟨rfl, rfl, rfl, by simp [putRow, mapBlock, Sort.ahead], fun k hk hne => ?_⟩
  have : g ≠ k := fun e => hne (by rw [e])
  simp [putRow, mapBlock, Sort.ahead, Array.getElem?_modify, this]
theorem gR_drop (xss : List (List Int)) (j : Nat) : gR (xss.drop 1) j = gR xss (j + 1) := by
  unfold gR; simp only [List.getD, List.getElem?_drop]; rw [Nat.add_comm]
/-! ### DeskDo -/
def DoOut (w : World) (r : List Int × List (List Int) × Bool) (e : Ending) (w' : World) : Prop :=
  ∃ A n c P m d, e = .returned (.tuple #[.agg #[.slice A n c, .slice P m d], .bool r.2.2]) ∧ OwnD w' w.heap.size w'.heap.size A n c r.1 P m d r.2.1 ∧ Below w.heap.size w w'
/-- The blocks of DeskDo: its desk, its deed, its result. -/
structure DoFr (w wr : World) (x y : Value) (kd a b : Int) (s : ByteArray) : Prop where
  two : Two wr w.heap.size x y
  four : Four wr (w.heap.size + 1) kd a b s
  res : Two wr (w.heap.size + 2) (.slice none 0 0) (.slice none 0 0)
  bel : Below w.heap.size w wr
section
variable {w wr w' : World} {x y : Value} {kd a b : Int} {s : ByteArray}
theorem DoFr.up (h : DoFr w wr x y kd a b s) (hb : Below wr.heap.size wr w') : DoFr w w' x y kd a b s := ⟨h.two.up hb, h.four.up hb, h.res.up hb, bt h.bel hb⟩
theorem DoFr.dn (h : DoFr w wr x y kd a b s) (m : Nat) : DoFr w (wr.drewN m) x y kd a b s := ⟨h.two, h.four, h.res, bd h.bel m⟩
theorem DoFr.size (h : DoFr w wr x y kd a b s) : w.heap.size + 3 ≤ wr.heap.size := h.res.1
theorem DoFr.end_ {A P : Option Addr} {n c m d lo hi : Nat} {xs : List Int} {yss : List (List Int)} (h : DoFr w wr x y kd a b s) (hO : OwnD wr lo hi A n c xs P m d yss) (hlo : w.heap.size + 3 ≤ lo) (hhi : hi ≤ wr.heap.size) (r : Bool) :
    DoOut w (xs, yss, r) (.returned (.tuple #[.agg #[.slice A n c, .slice P m d], .bool r])) ((wr.setCell ⟨w.heap.size + 2, 0, none⟩ (.slice A n c)).setCell ⟨w.heap.size + 2, 1, none⟩ (.slice P m d)) ∧
    Two ((wr.setCell ⟨w.heap.size + 2, 0, none⟩ (.slice A n c)).setCell ⟨w.heap.size + 2, 1, none⟩ (.slice P m d)) (w.heap.size + 2) (.slice A n c) (.slice P m d) := by
  have hch : Chg (w.heap.size + 2) (w.heap.size + 3) wr ((wr.setCell ⟨w.heap.size + 2, 0, none⟩ (.slice A n c)).setCell ⟨w.heap.size + 2, 1, none⟩ (.slice P m d)) :=
    ((Chg.refl _ _ wr).setCell (p := ⟨w.heap.size + 2, 0, none⟩) (by simp) (by simp) _).setCell (p := ⟨w.heap.size + 2, 1, none⟩) (by simp) (by simp) _
  have hz := h.size
  have hz2 := hch.size
  exact ⟨⟨_, _, _, _, _, _, rfl, (hO.chg hch (.inr (by omega))).wide (by omega) (by omega), h.bel.trans (hch.belowLo (by omega) (by omega))⟩, (h.res.set0 _).set1 _⟩
end
theorem desk_fit {xs : List Int} {yss : List (List Int)} (h : deskOkB xs yss = true) : 0 < xs.length ∧ xs.length ≤ 7 ∧ Fit yss := by
  obtain ⟨h1, h2, h3⟩ := desk_parts h
  have := mapOk_bounds h1
  refine ⟨by omega, by omega, by omega, fun k hk => ?_⟩
  have := mapOk_bounds (h3 k hk)
  omega
end Go.Proofs.YtnpjelekpkgbpaaDoor
namespace Go.Proofs.YtnpjelekpkgbpaaDoor
set_option linter.unusedVariables false
open Go.RowKit

theorem gR_take {xss : List (List Int)} {k j : Nat} (h : j < k) : gR (xss.take k) j = gR xss j := by
  unfold gR; simp only [List.getD]; rw [List.getElem?_take_of_lt h]
theorem rdr_take {w : World} {B m d M : Nat} {P : Option Addr} {yss : List (List Int)} (h : RdR w B P m d yss) (hM : M ≤ m) : RdR w B P M d (yss.take M) := by
  have hl := h.len
  have hc := h.cap
  refine ⟨by rw [List.length_take]; omega, by omega, h.max, fun hn => ?_⟩
  obtain ⟨b, off, e, hb, hcell⟩ := h.2.2.2 (by omega)
  refine ⟨b, off, e, hb, fun k hk => ?_⟩
  obtain ⟨A', n', c', h1, h2⟩ := hcell k (by omega)
  exact ⟨A', n', c', h1, by rw [gR_take hk]; exact h2⟩
theorem fit_take {yss : List (List Int)} (h : Fit yss) (M : Nat) : Fit (yss.take M) := by
  refine ⟨by rw [List.length_take]; have := h.1; omega, fun k hk => ?_⟩
  rw [List.length_take] at hk
  rw [gR_take (by omega)]
  exact h.2 k (by omega)
theorem DoFr.below {w wr w' : World} {x y : Value} {kd a b : Int} {s : ByteArray} {B : Nat} (h : DoFr w wr x y kd a b s) (hb : Below B wr w') (hB : w.heap.size + 3 ≤ B) : DoFr w w' x y kd a b s := ⟨h.two.below hb (by omega), h.four.below hb (by omega), h.res.below hb (by omega), h.bel.trans (hb.mono (by omega))⟩
theorem farc {w : World} {b g o : Nat} {u v x : Value} (h : b ≠ g) (hc : w.cell? ⟨b, o, none⟩ = some x) : ((w.setCell ⟨g, 0, none⟩ u).setCell ⟨g, 1, none⟩ v).cell? ⟨b, o, none⟩ = some x := by
  rw [World.cell?_setCell_other _ _ _ _ (by intro e; cases e; exact h rfl), World.cell?_setCell_other _ _ _ _ (by intro e; cases e; exact h rfl)]; exact hc
end Go.Proofs.YtnpjelekpkgbpaaDoor
namespace Go.Proofs.YtnpjelekpkgbpaaDoor
set_option linter.unusedVariables false
open Go.RowKit

theorem bare_4x {a b : Int} {s : ByteArray} (h : bareB 4 a b s = true) : a = 0 ∧ b = 0 ∧ s = ⟨#[]⟩ := by
  unfold bareB at h
  simp only [Bool.and_eq_true, Bool.or_eq_true, beq_iff_eq] at h
  obtain ⟨⟨h1, h2⟩, h3⟩ := h
  refine ⟨by omega, by omega, ?_⟩
  rcases h3 with h3 | h3
  · exact emp_iff.1 h3
  · omega
theorem back_bare {yss : List (List Int)} {kd a b : Int} {s : ByteArray} (h : backB yss kd a b s = true) : bareB kd a b s = true := by
  obtain ⟨rfl, rfl, rfl, rfl, _⟩ := back_iff.1 h
  rfl
theorem back_no {yss : List (List Int)} {kd a b : Int} {s : ByteArray} (h : ¬ kd = 4) : backB yss kd a b s = false := by
  rcases hb : backB yss kd a b s with _ | _
  · rfl
  · exact absurd (back_iff.1 hb).1 h
theorem past_lt {xs : List Int} {yss : List (List Int)} (h : yss.length < 8) : pastX xs yss = yss ++ [xs] := by unfold pastX; rw [if_pos h]
theorem past_ge {xs : List Int} {yss : List (List Int)} (h : ¬ yss.length < 8) : pastX xs yss = (yss ++ [xs]).drop 1 := by unfold pastX; rw [if_neg h]
end Go.Proofs.YtnpjelekpkgbpaaDoor
