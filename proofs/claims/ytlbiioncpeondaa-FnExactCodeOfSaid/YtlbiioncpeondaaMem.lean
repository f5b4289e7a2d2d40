/- Words for memory, more: a slice of the call's own between two block numbers; what is written between two block numbers. -/
import Derived.Test.YtlbiioncpeondaaM1
namespace Go.Proofs.Ytlbiioncpeondaa
set_option linter.unusedVariables false
open Go.RowKit

/-- Only blocks from lo on, and below hi, were written; new blocks may have come. -/
structure Chg (lo hi : Nat) (w w' : World) : Prop where
  os : w'.os = w.os
  tape : w'.tape = w.tape
  output : w'.output = w.output
  size : w.heap.size ≤ w'.heap.size
  block : ∀ k, k < w.heap.size → (k < lo ∨ hi ≤ k) → w'.heap[k]? = w.heap[k]?

section
variable {lo hi lo' hi' B n c : Nat} {w w' w'' : World} {A : Option Addr} {xs : List Int}
theorem Chg.refl (lo hi : Nat) (w : World) : Chg lo hi w w := ⟨rfl, rfl, rfl, Nat.le_refl _, fun _ _ _ => rfl⟩
theorem Chg.trans (h : Chg lo hi w w') (k : Chg lo hi w' w'') : Chg lo hi w w'' :=
  ⟨k.os.trans h.os, k.tape.trans h.tape, k.output.trans h.output, Nat.le_trans h.size k.size, fun i hi ho => (k.block i (Nat.lt_of_lt_of_le hi h.size) ho).trans (h.block i hi ho)⟩
theorem Chg.wide (h : Chg lo hi w w') (h1 : lo' ≤ lo) (h2 : hi ≤ hi') : Chg lo' hi' w w' := ⟨h.os, h.tape, h.output, h.size, fun k hk ho => h.block k hk (by omega)⟩
theorem Chg.below (h : Chg lo hi w w') (hl : lo ≤ w.heap.size) : Below lo w w' := ⟨h.os, h.tape, h.output, h.size, fun k hk => h.block k (by omega) (.inl hk)⟩
theorem Chg.below' (h : Chg lo hi w w') (hB : B ≤ lo) (hl : lo ≤ w.heap.size) : Below B w w' := (h.below hl).mono hB
theorem Chg.drewN (h : Chg lo hi w w') (m : Nat) : Chg lo hi w (w'.drewN m) := ⟨h.os, h.tape, h.output, h.size, h.block⟩
theorem Chg.of_below (h : Below w.heap.size w w') : Chg lo hi w w' := ⟨h.os, h.tape, h.output, h.size, fun k hk _ => h.block k hk⟩
theorem Chg.setCell (h : Chg lo hi w w') {p : Addr} (h1 : lo ≤ p.block) (h2 : p.block < hi) (u : Value) : Chg lo hi w (w'.setCell p u) :=
  h.trans ⟨rfl, rfl, rfl, by simp [World.setCell], fun k _ ho => Below.heap_setCell _ _ _ _ (by omega)⟩

/-- A slice of the call's own whose block lies from lo on, and below hi. -/
def OwnIn (w : World) (lo hi : Nat) (A : Option Addr) (n c : Nat) (xs : List Int) : Prop :=
  Own w lo A n c xs ∧ ∀ k, (Value.slice A n c).ownBlock = some k → k < hi
theorem Own.inn (h : Own w B A n c xs) : OwnIn w B w.heap.size A n c xs := ⟨h, fun k hk => (h.row.lt k hk).2⟩
theorem OwnIn.own (h : OwnIn w lo hi A n c xs) : Own w lo A n c xs := h.1
theorem OwnIn.len (h : OwnIn w lo hi A n c xs) : xs.length = n := h.1.1
theorem Own.more (h : Own w lo A n c xs) (hl : lo' ≤ lo) : Own w lo' A n c xs := by
  refine ⟨h.1, h.2.1, ?_⟩
  rcases h.2.2 with h0 | ⟨g, cap, cur, e, hb, r⟩
  · exact .inl h0
  · exact .inr ⟨g, cap, cur, e, by omega, r⟩
theorem OwnIn.wide (h : OwnIn w lo hi A n c xs) (h1 : lo' ≤ lo) (h2 : hi ≤ hi') : OwnIn w lo' hi' A n c xs := ⟨h.1.more h1, fun k hk => by have := h.2 k hk; omega⟩
theorem OwnIn.lt (h : OwnIn w lo hi A n c xs) : ∀ k, (Value.slice A n c).ownBlock = some k → lo ≤ k ∧ k < hi ∧ k < w.heap.size := fun k hk => ⟨(h.1.row.lt k hk).1, h.2 k hk, (h.1.row.lt k hk).2⟩
theorem OwnIn.keep (h : OwnIn w lo hi A n c xs) (hk : ∀ k, lo ≤ k → k < hi → k < w.heap.size → w'.heap[k]? = w.heap[k]?) : OwnIn w' lo hi A n c xs := by
  refine ⟨⟨h.1.1, h.1.2.1, ?_⟩, h.2⟩
  rcases h.1.2.2 with h0 | ⟨g, cap, cur, e, hb, hg, r⟩
  · exact .inl h0
  · refine .inr ⟨g, cap, cur, e, hb, ?_, r⟩
    have h2 := h.lt g (by rw [e]; rfl)
    rw [hk g h2.1 h2.2.1 h2.2.2]; exact hg
theorem OwnIn.below (h : OwnIn w lo hi A n c xs) (hb : Below B w w') (hB : hi ≤ B) : OwnIn w' lo hi A n c xs := h.keep fun k _ h2 _ => hb.block k (by omega)
theorem OwnIn.up (h : OwnIn w lo hi A n c xs) (hb : Below w.heap.size w w') : OwnIn w' lo hi A n c xs := h.keep fun k _ _ h3 => hb.block k h3
theorem OwnIn.chg (h : OwnIn w lo hi A n c xs) (hc : Chg lo' hi' w w') (hd : hi ≤ lo' ∨ hi' ≤ lo) : OwnIn w' lo hi A n c xs := h.keep fun k _ _ h3 => hc.block k h3 (by omega)
theorem OwnIn.dn (h : OwnIn w lo hi A n c xs) (m : Nat) : OwnIn (w.drewN m) lo hi A n c xs := h
theorem OwnIn.rd (h : OwnIn w lo hi A n c xs) : Rd w w.heap.size A n c xs := h.1.rd
theorem Rd.chg (h : Rd w B A n c xs) (hc : Chg lo hi w w') (hB : B ≤ lo) (hl : lo ≤ w.heap.size) : Rd w' B A n c xs := h.below ((hc.below hl).mono hB)

/-- The numbers k, k + 1, .. -/
def marks (k n : Nat) : List Int := (List.range n).map (fun i => ((k + i : Nat) : Int))
theorem marks_len (k n : Nat) : (marks k n).length = n := by simp [marks]
theorem gI_marks {k n i : Nat} (h : i < n) : gI (marks k n) i = ((k + i : Nat) : Int) := by
  rw [gI_get (by rw [marks_len]; exact h)]; simp [marks]
/-- the first i numbers marked -/
def marked (xs : List Int) (k i : Nat) : List Int := marks k i ++ xs.drop i
theorem marked_len (xs : List Int) (k i : Nat) (h : i ≤ xs.length) : (marked xs k i).length = xs.length := by simp [marked, marks_len]; omega
theorem marked_zero (xs : List Int) (k : Nat) : marked xs k 0 = xs := by simp [marked, marks]
theorem marked_all (xs : List Int) (k n : Nat) (h : xs.length = n) : marked xs k n = marks k n := by simp [marked, ← h]
theorem marked_succ (xs : List Int) (k i : Nat) (h : i < xs.length) : (marked xs k i).set i ((k + i : Nat) : Int) = marked xs k (i + 1) := by
  unfold marked
  rw [List.set_append_right _ _ (by rw [marks_len]; exact Nat.le_refl _), marks_len, Nat.sub_self, List.drop_eq_getElem_cons h, List.set_cons_zero]
  simp [marks, List.range_succ]
theorem gI_marked_ge {xs : List Int} {k i j : Nat} (h : i ≤ j) : gI (marked xs k i) j = gI xs j := by
  unfold gI marked
  simp only [List.getD]
  rw [List.getElem?_append_right (by rw [marks_len]; exact h), marks_len, List.getElem?_drop, show i + (j - i) = j by omega]
end

/-- A store into an owned row. -/
theorem OwnIn.store {w : World} {lo hi g n c : Nat} {xs : List Int} (h : OwnIn w lo hi (some ⟨g, 0, none⟩) n c xs) (j : Nat) (u : Int) :
    OwnIn (w.setCell ⟨g, j, none⟩ (.int .i64 u)) lo hi (some ⟨g, 0, none⟩) n c (xs.set j u) ∧ Chg lo hi w (w.setCell ⟨g, j, none⟩ (.int .i64 u)) := by
  have h1 := h.lt g rfl
  have h2 := (h.1.row.stored j (.int .i64 u)).1
  refine ⟨⟨⟨by simpa using h.len, by rw [List.map_set]; exact h2⟩, h.2⟩, (Chg.refl lo hi w).setCell h1.1 h1.2.1 _⟩
theorem OwnIn.cell {w : World} {lo hi g n c : Nat} {xs : List Int} (h : OwnIn w lo hi (some ⟨g, 0, none⟩) n c xs) {j : Nat} (hj : j < n) : w.cell? ⟨g, j, none⟩ = some (.int .i64 (gI xs j)) := by
  have := h.1.row.cellAt j (by omega)
  rw [this]
  have hj' : j < xs.length := by rw [h.len]; exact hj
  simp [gI, List.getD, List.getElem?_eq_getElem hj']
theorem OwnIn.frozen {w : World} {lo hi g n c : Nat} {xs : List Int} (h : OwnIn w lo hi (some ⟨g, 0, none⟩) n c xs) (j : Nat) : w.frozen? ⟨g, j, none⟩ = false := h.1.row.frozenAt j
/-- Where there is an element there is a block. -/
theorem OwnIn.some_ {w : World} {lo hi n c : Nat} {A : Option Addr} {xs : List Int} (h : OwnIn w lo hi A n c xs) (hn : 0 < n) : ∃ g, A = some ⟨g, 0, none⟩ := by
  rcases h.1.2.2 with ⟨e, h0⟩ | ⟨g, cap, cur, e, _⟩
  · omega
  · cases e; exact ⟨g, rfl⟩

section
variable {lo hi lo' hi' B : Nat} {w a b : World}
/-- Behind a change between lo and hi: whatever leaves the blocks of the first world alone. -/
theorem Chg.then_ (h : Chg lo hi w a) (k : Below w.heap.size a b) : Chg lo hi w b :=
  ⟨k.os.trans h.os, k.tape.trans h.tape, k.output.trans h.output, Nat.le_trans h.size k.size, fun i hi ho => (k.block i hi).trans (h.block i hi ho)⟩
theorem Chg.up_ (h : Chg lo hi w a) (k : Below a.heap.size a b) : Chg lo hi w b := h.then_ (k.mono h.size)
theorem Chg.setNew (h : Chg lo hi w a) {p : Addr} (hp : w.heap.size ≤ p.block) (u : Value) : Chg lo hi w (a.setCell p u) :=
  h.then_ ((Below.refl _ _).setCell hp u)
theorem Chg.allocNew (h : Chg lo hi w a) (o : Obj) : Chg lo hi w (a.alloc o) := h.then_ ((Below.refl _ _).alloc h.size o)
/-- A change among the first world's own blocks, and one behind them. -/
theorem Chg.chg_ (h : Chg lo hi w a) (k : Chg lo' hi' a b) (hd : w.heap.size ≤ lo' ∨ (lo ≤ lo' ∧ hi' ≤ hi)) : Chg lo hi w b :=
  ⟨k.os.trans h.os, k.tape.trans h.tape, k.output.trans h.output, Nat.le_trans h.size k.size, fun i hi2 ho => (k.block i (Nat.lt_of_lt_of_le hi2 h.size) (by omega)).trans (h.block i hi2 ho)⟩
theorem Chg.belowLo (h : Chg lo hi w a) (hB : B ≤ lo) (hs : B ≤ w.heap.size) : Below B w a := ⟨h.os, h.tape, h.output, h.size, fun k hk => h.block k (by omega) (.inl (by omega))⟩
end
end Go.Proofs.Ytlbiioncpeondaa
