/- Bundle Q. -/
import Derived.Test.YtoinlkdmfclnbaaGreatDoorRows
import Derived.Deep.RegionHeld
import Derived.Laws.ResultCell
import Derived.Laws.Rows
import Derived.Test.YtoinlkdmfclnbaaGreatDoorYP
namespace Go.Proofs.YtoinlkdmfclnbaaGreatDoor
set_option linter.unusedVariables false
section
open Go.RowKit
structure Chg (lo hi : Nat) (w w' : World) : Prop where
 os : w'.os = w.os
 tape : w'.tape = w.tape
 output : w'.output = w.output
 size : w.heap.size ≤ w'.heap.size
 block : ∀ k, k < w.heap.size → (k < lo ∨ hi ≤ k) → w'.heap[k]? = w.heap[k]?
section
variable {lo hi lo' hi' B n c : Nat} {w w' w'' : World} {A : Option Addr} {xs : List Int}
theorem Chg.refl (lo hi : Nat) (w : World) : Chg lo hi w w := ⟨rfl, rfl, rfl, Nat.le_refl _, fun _ _ _ => rfl⟩
theorem Chg.trans (h : Chg lo hi w w') (k : Chg lo hi w' w'') : Chg lo hi w w'' :=
 ⟨k.os.trans h.os, k.tape.trans h.tape, k.output.trans h.output, Nat.le_trans h.size k.size, fun i hi ho => (k.block i (Nat.lt_of_lt_of_le hi h.size) ho).trans (h.block i hi ho)⟩
theorem Chg.below (h : Chg lo hi w w') (hl : lo ≤ w.heap.size) : Below lo w w' := ⟨h.os, h.tape, h.output, h.size, fun k hk => h.block k (by omega) (.inl hk)⟩
theorem Chg.below' (h : Chg lo hi w w') (hB : B ≤ lo) (hl : lo ≤ w.heap.size) : Below B w w' := (h.below hl).mono hB
theorem Chg.drewN (h : Chg lo hi w w') (m : Nat) : Chg lo hi w (w'.drewN m) := ⟨h.os, h.tape, h.output, h.size, h.block⟩
theorem Chg.of_below (h : Below w.heap.size w w') : Chg lo hi w w' := ⟨h.os, h.tape, h.output, h.size, fun k hk _ => h.block k hk⟩
theorem Chg.setCell (h : Chg lo hi w w') {p : Addr} (h1 : lo ≤ p.block) (h2 : p.block < hi) (u : Value) : Chg lo hi w (w'.setCell p u) :=
 h.trans ⟨rfl, rfl, rfl, by simp [World.setCell], fun k _ ho => Below.heap_setCell _ _ _ _ (by omega)⟩
def OwnIn (w : World) (lo hi : Nat) (A : Option Addr) (n c : Nat) (xs : List Int) : Prop :=
 Own w lo A n c xs ∧ ∀ k, (Value.slice A n c).ownBlock = some k → k < hi
theorem Own.inn (h : Own w B A n c xs) : OwnIn w B w.heap.size A n c xs := ⟨h, fun k hk => (h.row.lt k hk).2⟩
theorem OwnIn.len (h : OwnIn w lo hi A n c xs) : xs.length = n := h.1.1
theorem Own.more (h : Own w lo A n c xs) (hl : lo' ≤ lo) : Own w lo' A n c xs := by
 refine ⟨h.1, h.2.1, ?_⟩
 rcases h.2.2 with h0 | ⟨g, cap, cur, e, hb, r⟩
 · exact .inl h0
 · exact .inr ⟨g, cap, cur, e, by omega, r⟩
theorem OwnIn.wide (h : OwnIn w lo hi A n c xs) (h1 : lo' ≤ lo) (h2 : hi ≤ hi') : OwnIn w lo' hi' A n c xs := ⟨h.1.more h1, fun k hk => by have := h.2 k hk; omega⟩
theorem OwnIn.lt (h : OwnIn w lo hi A n c xs) : ∀ k, (Value.slice A n c).ownBlock = some k → lo ≤ k ∧ k < hi ∧ k < w.heap.size := fun k hk => ⟨(h.1.row.lt k hk).1, h.2 k hk, (h.1.row.lt k hk).2⟩
theorem OwnIn.keep (h : OwnIn w lo hi A n c xs) (hk : ∀ k, lo ≤ k → k < hi → k < w.heap.size → w'.heap[k]? = w.heap[k]?) : OwnIn w' lo hi A n c xs := by
 refine ⟨⟨h.1.1, h.1.2.1, ?_⟩, h.2⟩
 rcases h.1.2.2 with h0 | ⟨g, cap, cur, e, hb, hg, r⟩
 · exact .inl h0
 · refine .inr ⟨g, cap, cur, e, hb, ?_, r⟩
   have h2 := h.lt g (by rw [e]; rfl)
   rw [hk g h2.1 h2.2.1 h2.2.2]; exact hg
theorem OwnIn.below (h : OwnIn w lo hi A n c xs) (hb : Below B w w') (hB : hi ≤ B) : OwnIn w' lo hi A n c xs := h.keep fun k _ h2 _ => hb.block k (by omega)
theorem OwnIn.up (h : OwnIn w lo hi A n c xs) (hb : Below w.heap.size w w') : OwnIn w' lo hi A n c xs := h.keep fun k _ _ h3 => hb.block k h3
theorem OwnIn.chg (h : OwnIn w lo hi A n c xs) (hc : Chg lo' hi' w w') (hd : hi ≤ lo' ∨ hi' ≤ lo) : OwnIn w' lo hi A n c xs := h.keep fun k _ _ h3 => hc.block k h3 (by omega)
theorem OwnIn.dn (h : OwnIn w lo hi A n c xs) (m : Nat) : OwnIn (w.drewN m) lo hi A n c xs := h
theorem OwnIn.rd (h : OwnIn w lo hi A n c xs) : Rd w w.heap.size A n c xs := h.1.rd
end
theorem OwnIn.store {w : World} {lo hi g n c : Nat} {xs : List Int} (h : OwnIn w lo hi (some ⟨g, 0, none⟩) n c xs) (j : Nat) (u : Int) :
    OwnIn (w.setCell ⟨g, j, none⟩ (.int .i64 u)) lo hi (some ⟨g, 0, none⟩) n c (xs.set j u) ∧ Chg lo hi w (w.setCell ⟨g, j, none⟩ (.int .i64 u)) := by
 have h1 := h.lt g rfl
 have h2 := (h.1.row.stored j (.int .i64 u)).1
 refine ⟨⟨⟨by simpa using h.len, by rw [List.map_set]; exact h2⟩, h.2⟩, (Chg.refl lo hi w).setCell h1.1 h1.2.1 _⟩
theorem OwnIn.cell {w : World} {lo hi g n c : Nat} {xs : List Int} (h : OwnIn w lo hi (some ⟨g, 0, none⟩) n c xs) {j : Nat} (hj : j < n) : w.cell? ⟨g, j, none⟩ = some (.int .i64 (gI xs j)) := by
 have := h.1.row.cellAt j (by omega)
 rw [this]
 have hj' : j < xs.length := by rw [h.len]; exact hj
 simp [gI, List.getD, List.getElem?_eq_getElem hj']
theorem OwnIn.frozen {w : World} {lo hi g n c : Nat} {xs : List Int} (h : OwnIn w lo hi (some ⟨g, 0, none⟩) n c xs) (j : Nat) : w.frozen? ⟨g, j, none⟩ = false := h.1.row.frozenAt j
theorem OwnIn.some_ {w : World} {lo hi n c : Nat} {A : Option Addr} {xs : List Int} (h : OwnIn w lo hi A n c xs) (hn : 0 < n) : ∃ g, A = some ⟨g, 0, none⟩ := by
 rcases h.1.2.2 with ⟨e, h0⟩ | ⟨g, cap, cur, e, _⟩
 · omega
 · cases e; exact ⟨g, rfl⟩
section
variable {lo hi lo' hi' B : Nat} {w a b : World}
theorem Chg.then_ (h : Chg lo hi w a) (k : Below w.heap.size a b) : Chg lo hi w b :=
 ⟨k.os.trans h.os, k.tape.trans h.tape, k.output.trans h.output, Nat.le_trans h.size k.size, fun i hi ho => (k.block i hi).trans (h.block i hi ho)⟩
theorem Chg.up_ (h : Chg lo hi w a) (k : Below a.heap.size a b) : Chg lo hi w b := h.then_ (k.mono h.size)
theorem Chg.setNew (h : Chg lo hi w a) {p : Addr} (hp : w.heap.size ≤ p.block) (u : Value) : Chg lo hi w (a.setCell p u) :=
 h.then_ ((Below.refl _ _).setCell hp u)
theorem Chg.allocNew (h : Chg lo hi w a) (o : Obj) : Chg lo hi w (a.alloc o) := h.then_ ((Below.refl _ _).alloc h.size o)
theorem Chg.chg_ (h : Chg lo hi w a) (k : Chg lo' hi' a b) (hd : w.heap.size ≤ lo' ∨ (lo ≤ lo' ∧ hi' ≤ hi)) : Chg lo hi w b :=
 ⟨k.os.trans h.os, k.tape.trans h.tape, k.output.trans h.output, Nat.le_trans h.size k.size, fun i hi2 ho => (k.block i (Nat.lt_of_lt_of_le hi2 h.size) (by omega)).trans (h.block i hi2 ho)⟩
theorem Chg.belowLo (h : Chg lo hi w a) (hB : B ≤ lo) (hs : B ≤ w.heap.size) : Below B w a := ⟨h.os, h.tape, h.output, h.size, fun k hk => h.block k (by omega) (.inl (by omega))⟩
end
end
section
open Go.RowKit
theorem int_info : (Tryz.prog.info? 3).map (fun i => (i.zero, i.size, i.bytes)) = some (some (.int .i64 0), 1, 8) := by kernel_rfl
def OwnV (w : World) (B : Nat) (v : Value) (xs : List Int) : Prop := w.ownsRow B 3 1 v xs.length (xs.map (Value.int .i64))
theorem OwnV.form {w : World} {B : Nat} {v : Value} {xs : List Int} (h : OwnV w B v xs) : ∃ A c, v = .slice A xs.length c ∧ Own w B A xs.length c xs := by
 rcases h.2 with ⟨rfl, h0⟩ | ⟨g, cap, cur, rfl, r⟩
 · exact ⟨none, 0, by rw [h0], rfl, h.1, .inl ⟨by rw [h0], h0⟩⟩
 · exact ⟨_, _, rfl, rfl, h.1, .inr ⟨g, cap, cur, rfl, r⟩⟩
theorem OwnV.nil_ (w : World) (B : Nat) : OwnV w B (.slice none 0 0) [] := World.ownsRow_nil _ _ _ _
theorem OwnV.made (w : World) (B : Nat) (cur : Array Value) (hB : B ≤ w.heap.size) (hs : cur.size = 0) : OwnV (w.alloc (.cells cur 3)) B (.slice (some ⟨w.heap.size, 0, none⟩) 0 0) [] :=
 World.ownsRow_made w cur 0 hB (Nat.zero_le _) (by simpa using hs)
theorem OwnV.below {w w' : World} {B B' : Nat} {v : Value} {xs : List Int} (h : OwnV w B v xs) (hb : Below B' w w') (hB : w.heap.size ≤ B') : OwnV w' B v xs := by
 refine ⟨h.1, ?_⟩
 rcases h.2 with h0 | ⟨g, cap, cur, e, hg, hh, r⟩
 · exact .inl h0
 · exact .inr ⟨g, cap, cur, e, hg, by rw [hb.block g (by have := (Array.getElem?_eq_some_iff.1 hh).1; omega)]; exact hh, r⟩
theorem OwnV.up {w w' : World} {B : Nat} {v : Value} {xs : List Int} (h : OwnV w B v xs) (hb : Below w.heap.size w w') : OwnV w' B v xs := h.below hb (Nat.le_refl _)
theorem OwnV.chg {w w' : World} {B lo hi : Nat} {v : Value} {xs : List Int} (h : OwnV w B v xs) (hc : Chg lo hi w w') (hd : hi ≤ B) : OwnV w' B v xs := by
 refine ⟨h.1, ?_⟩
 rcases h.2 with h0 | ⟨g, cap, cur, e, hg, hh, r⟩
 · exact .inl h0
 · exact .inr ⟨g, cap, cur, e, hg, by rw [hc.block g (Array.getElem?_eq_some_iff.1 hh).1 (.inr (by omega))]; exact hh, r⟩
theorem app_int {ops : Array Oper} {rest : List Oper} {o : Oper} {a : Act} {Q : Exit → Act → World → Prop} (w : World) (y : Int) (hgd : o.guard = none) (s x : Operand)
    (ho : o.op = .call { callee := .builtin .append, args := #[s, x], argTypes := #[23, 23] })
    (B : Nat) (v : Value) (xs : List Int) (hs : a.eval s = v) (hown : OwnV w B v xs) (hx : a.eval x = .slice (some ⟨w.heap.size, 0, none⟩) 1 1)
    (hlen : xs.length ≤ 1000000000000) (hB : B ≤ w.heap.size)
    (h : ∀ v' w', OwnV w' B v' (xs ++ [y]) → Below B w w' → wpList Tryz.prog ops Q rest (a.put o.dst v') w') :
    wpList Tryz.prog ops Q (o :: rest) a (w.alloc (.cells #[.int .i64 y] 3)) := by
 obtain ⟨i0, hi, hz0, hz1, hz2⟩ := info_parts int_info
 refine wpList_append_own _ hgd s x 23 ho B 3 i0 (.int .i64 0) 1 8 Tryz.underlying23 hi hz0 hz1 hz2 rfl (by decide) v xs.length (xs.map (Value.int .i64)) hs (hown.alloc _) ⟨w.heap.size, 0, none⟩ 1 1 [.int .i64 y] hx rfl (cell_one_new _ _ _) (by simp [Value.oneCell']) (by unfold maxLen; omega) (by omega) (by simp; omega) ?_
 intro v' w' hown' hg _
 refine h v' w' ?_ ?_
 · unfold OwnV
   rw [List.length_append, List.map_append]
   exact hown'
 · refine ((Below.refl B w).alloc hB _).grown hg (by simp; omega) (fun k hk => (hown.lt k hk).1)
end
section
open Go.RowKit
def RdB (w : World) (B : Nat) (A : Option Addr) (n c : Nat) (bs : List Nat) : Prop :=
 bs.length = n ∧ n ≤ c ∧ c ≤ maxLen ∧ (∀ b ∈ bs, b < 256) ∧ (0 < n → ∃ b off, A = some ⟨b, off, none⟩ ∧ b < B ∧ ∀ k, k < n → w.cell? ⟨b, off + k, none⟩ = some (.int .u8 (nx bs k : Int)))
section
variable {w w' : World} {B B' n c : Nat} {A : Option Addr} {bs : List Nat}
theorem RdB.cap (h : RdB w B A n c bs) : n ≤ c := h.2.1
theorem RdB.max (h : RdB w B A n c bs) : c ≤ maxLen := h.2.2.1
theorem RdB.at_ (h : RdB w B A n c bs) {k : Nat} (hk : k < n) : ∃ b off, A = some ⟨b, off, none⟩ ∧ b < B ∧ w.cell? ⟨b, off + k, none⟩ = some (.int .u8 (nx bs k : Int)) := by
 obtain ⟨b, off, e, hb, hc⟩ := h.2.2.2.2 (by omega)
 exact ⟨b, off, e, hb, hc k hk⟩
theorem RdB.byte (h : RdB w B A n c bs) (k : Nat) : nx bs k < 256 := by
 rcases Nat.lt_or_ge k bs.length with hk | hk
 · rw [nx_get hk]; exact h.2.2.2.1 _ (List.getElem_mem hk)
 · simp [nx, List.getD, List.getElem?_eq_none hk]
theorem RdB.keep (h : RdB w B A n c bs) (hk : ∀ p : Addr, p.block < B → w'.cell? p = w.cell? p) : RdB w' B A n c bs :=
 ⟨h.1, h.2.1, h.2.2.1, h.2.2.2.1, fun hn => by
  obtain ⟨b, off, e, hb, hc⟩ := h.2.2.2.2 hn
  exact ⟨b, off, e, hb, fun k hk' => (hk _ hb).trans (hc k hk')⟩⟩
theorem RdB.below (h : RdB w B A n c bs) (hb : Below B w w') : RdB w' B A n c bs := h.keep fun _ hp => hb.cell hp
theorem RdB.cut (h : RdB w B A n c bs) {m : Nat} (hm : m ≤ n) : RdB w B A m c (bs.take m) := by
 refine ⟨by rw [List.length_take, h.1]; omega, by have := h.cap; omega, h.max, fun b hb => h.2.2.2.1 b (List.mem_of_mem_take hb), fun hp => ?_⟩
 obtain ⟨b, off, e, hb, hc⟩ := h.2.2.2.2 (by omega)
 refine ⟨b, off, e, hb, fun k hk => ?_⟩
 rw [hc k (by omega)]
 unfold nx; simp [List.getD, hk]
end
def Rdr (w : World) (lo g p : Nat) : Prop :=
 ∃ (A : Option Addr) (n c : Nat) (bs : List Nat) (q : Nat), q ≤ p ∧ lo ≤ g ∧ w.heap[g]? = some (.cells #[.slice A n c, .int .i64 (q : Int)] 112 (0, 0)) ∧ RdB w lo A n c bs ∧ n ≤ 2000
theorem Rdr.lt {w : World} {lo g p : Nat} (h : Rdr w lo g p) : g < w.heap.size := by
 obtain ⟨A, n, c, bs, q, _, _, hg, _⟩ := h
 exact (Array.getElem?_eq_some_iff.1 hg).1
theorem Rdr.lo {w : World} {lo g p : Nat} (h : Rdr w lo g p) : lo ≤ g := by
 obtain ⟨A, n, c, bs, q, _, h1, _⟩ := h
 exact h1
theorem Rdr.more {w : World} {lo g p p' : Nat} (h : Rdr w lo g p) (hp : p ≤ p') : Rdr w lo g p' := by
 obtain ⟨A, n, c, bs, q, h1, r⟩ := h
 exact ⟨A, n, c, bs, q, by omega, r⟩
theorem Rdr.up {w w' : World} {lo g p : Nat} (h : Rdr w lo g p) (hb : Below w.heap.size w w') : Rdr w' lo g p := by
 have hlt := h.lt
 obtain ⟨A, n, c, bs, q, h1, h2, hg, hr, hn⟩ := h
 exact ⟨A, n, c, bs, q, h1, h2, by rw [hb.block g hlt]; exact hg, hr.below (hb.mono (by omega)), hn⟩
theorem Rdr.below {w w' : World} {lo g p B : Nat} (h : Rdr w lo g p) (hb : Below B w w') (hB : g < B) : Rdr w' lo g p := by
 obtain ⟨A, n, c, bs, q, h1, h2, hg, hr, hn⟩ := h
 exact ⟨A, n, c, bs, q, h1, h2, by rw [hb.block g hB]; exact hg, hr.below (hb.mono (by omega)), hn⟩
theorem Rdr.dn {w : World} {lo g p : Nat} (h : Rdr w lo g p) (m : Nat) : Rdr (w.drewN m) lo g p := h
theorem Rdr.chg {w w' : World} {lo g p a b : Nat} (h : Rdr w lo g p) (hc : Chg a b w w') (ha : lo ≤ a) (hd : g < a ∨ b ≤ g) : Rdr w' lo g p := by
 have hlt := h.lt
 obtain ⟨A, n, c, bs, q, h1, h2, hg, hr, hn⟩ := h
 refine ⟨A, n, c, bs, q, h1, h2, by rw [hc.block g hlt (by omega)]; exact hg, hr.keep (fun p hp => ?_), hn⟩
 exact World.cell?_of_block (w := w) (hc.block p.block (by omega) (.inl (by omega)))
end
section
open Go.RowKit
def Two (w : World) (g : Nat) (x y : Value) : Prop :=
 g < w.heap.size ∧ w.cell? ⟨g, 0, none⟩ = some x ∧ w.cell? ⟨g, 1, none⟩ = some y ∧ w.frozen? ⟨g, 0, none⟩ = false ∧ w.frozen? ⟨g, 1, none⟩ = false
section
variable {w w' : World} {g B : Nat} {x y : Value}
theorem Two.made (w : World) (T : TypeId) (x y : Value) : Two (w.alloc (.cells #[x, y] T)) w.heap.size x y := by
 have e := heap_alloc_new w (.cells #[x, y] T)
 refine ⟨by simp, by simp, by simp, ?_, ?_⟩
 · simp only [World.frozen?, e]; simp
 · simp only [World.frozen?, e]; simp
theorem Two.below (h : Two w g x y) (hb : Below B w w') (hg : g < B) : Two w' g x y :=
 ⟨Nat.lt_of_lt_of_le h.1 hb.size, (hb.cell (p := ⟨g, 0, none⟩) hg).trans h.2.1, (hb.cell (p := ⟨g, 1, none⟩) hg).trans h.2.2.1, (hb.frozen (p := ⟨g, 0, none⟩) hg).trans h.2.2.2.1, (hb.frozen (p := ⟨g, 1, none⟩) hg).trans h.2.2.2.2⟩
theorem Two.up (h : Two w g x y) (hb : Below w.heap.size w w') : Two w' g x y := h.below hb h.1
theorem Two.alloc (h : Two w g x y) (o : Obj) : Two (w.alloc o) g x y := h.up ((Below.refl _ _).alloc (Nat.le_refl _) o)
theorem Two.far (h : Two w g x y) {p : Addr} (hp : g ≠ p.block) (u : Value) : Two (w.setCell p u) g x y :=
 have e := Below.heap_setCell w p u g hp
 ⟨by simpa using h.1, (World.cell?_of_block (a := ⟨g, 0, none⟩) e).trans h.2.1, (World.cell?_of_block (a := ⟨g, 1, none⟩) e).trans h.2.2.1, (World.frozen?_of_block (a := ⟨g, 0, none⟩) e).trans h.2.2.2.1, (World.frozen?_of_block (a := ⟨g, 1, none⟩) e).trans h.2.2.2.2⟩
theorem Two.set0 (h : Two w g x y) (u : Value) : Two (w.setCell ⟨g, 0, none⟩ u) g u y :=
 ⟨by simpa using h.1, World.cell?_setCell_same _ _ _ h.2.1, (World.cell?_setCell_other _ _ _ _ (by simp)).trans h.2.2.1, by rw [World.frozen?_setCell]; exact h.2.2.2.1, by rw [World.frozen?_setCell]; exact h.2.2.2.2⟩
theorem Two.set1 (h : Two w g x y) (u : Value) : Two (w.setCell ⟨g, 1, none⟩ u) g x u :=
 ⟨by simpa using h.1, (World.cell?_setCell_other _ _ _ _ (by simp)).trans h.2.1, World.cell?_setCell_same _ _ _ h.2.2.1, by rw [World.frozen?_setCell]; exact h.2.2.2.1, by rw [World.frozen?_setCell]; exact h.2.2.2.2⟩
end
def isS (d : TypeDesc) : Bool := match d with | .struct _ => true | _ => false
theorem load_two {P : Program} {ty : TypeId} {w : World} {g : Nat} {x y : Value} {d : TypeDesc} (h : Two w g x y) (hu : P.underlying ty = some d) (hd : isS d = true) (hi : (P.info? ty).map (·.size) = some 2) :
    (loadVar ty ⟨g, 0, none⟩).run P w = .ok (.agg #[x, y]) w := by
 have hl : (loadCells ⟨g, 0, none⟩ [x, y].length).run P w = .ok [x, y].toArray w :=
  run_loadCells_list (P := P) w ⟨g, 0, none⟩ [x, y] (fun j v hv => by
   have hadd : (⟨g, 0, none⟩ : Addr).add j = ⟨g, j, none⟩ := by unfold Addr.add; split <;> simp_all
   rw [hadd]
   match j, hv with
   | 0, hv => simp at hv; subst hv; exact h.2.1
   | 1, hv => simp at hv; subst hv; exact h.2.2.1
   | j + 2, hv => simp at hv)
 cases hq : P.info? ty with
 | none => simp [hq] at hi
 | some i =>
  have hs : i.size = 2 := by simpa [hq] using hi
  have hagg : (isAgg ty).run P w = .ok true w := by
   unfold isAgg
   rw [Sem.run_bind, run_underlying hu w]
   cases d <;> simp_all [isS]
  simp only [List.length_cons, List.length_nil] at hl
  simp [loadVar, Sem.run_bind, hagg, sizeOf, typeInfo, hq, hs, hl]
theorem results_two {fn : Func} {p : Tmp} {ty : TypeId} {P : Program} (h : fn.results = #[.cell p ty]) (tmps : Array Value) (w : World) (g : Nat) (x y : Value) (d : TypeDesc)
    (hp : tmps.getD p undef = .pointer (some ⟨g, 0, none⟩)) (hg : Two w g x y) (hu : P.underlying ty = some d) (hd : isS d = true) (hi : (P.info? ty).map (·.size) = some 2) :
    (results fn tmps).run P w = .ok (.agg #[x, y]) w := by
 have hp' : tmps[p]?.getD undef = .pointer (some ⟨g, 0, none⟩) := by simpa using hp
 simp [results, h, hp', asAddr, load_two hg hu hd hi]
theorem results_two_tmp {fn : Func} {p u : Tmp} {ty : TypeId} {P : Program} (h : fn.results = #[.cell p ty, .tmp u]) (tmps : Array Value) (w : World) (g : Nat) (x y : Value) (d : TypeDesc)
    (hp : tmps.getD p undef = .pointer (some ⟨g, 0, none⟩)) (hg : Two w g x y) (hu : P.underlying ty = some d) (hd : isS d = true) (hi : (P.info? ty).map (·.size) = some 2) :
    (results fn tmps).run P w = .ok (.tuple #[.agg #[x, y], tmps.getD u undef]) w := by
 have hp' : tmps[p]?.getD undef = .pointer (some ⟨g, 0, none⟩) := by simpa using hp
 rw [results_cell_tmp h]
 simp [hp', asAddr, load_two hg hu hd hi, Result.andThen]
theorem desk_size : (Tryz.prog.info? 26).map (·.size) = some 2 := by kernel_rfl
end
section
open Go.RowKit
theorem OwnV.more {w : World} {B B' : Nat} {v : Value} {xs : List Int} (h : OwnV w B v xs) (hB : B' ≤ B) : OwnV w B' v xs := by
 refine ⟨h.1, ?_⟩
 rcases h.2 with h0 | ⟨g, cap, cur, e, hg, r⟩
 · exact .inl h0
 · exact .inr ⟨g, cap, cur, e, by omega, r⟩
theorem OwnV.slice_ {w : World} {B : Nat} {v : Value} {xs : List Int} (h : OwnV w B v xs) : ∃ A c, v = .slice A xs.length c ∧ OwnIn w B w.heap.size A xs.length c xs := by
 obtain ⟨A, c, rfl, hO⟩ := h.form
 exact ⟨A, c, rfl, hO.inn⟩
theorem OwnV.slice_s {w : World} {B : Nat} {v : Value} {xs : List Int} {y : Int} (h : OwnV w B v (xs ++ [y])) : ∃ A c, v = .slice A (xs.length + 1) c ∧ OwnIn w B w.heap.size A (xs.length + 1) c (xs ++ [y]) := by
 obtain ⟨A, c, rfl, hO⟩ := h.form
 rw [List.length_append] at hO ⊢
 exact ⟨A, c, rfl, hO.inn⟩
def Row1 (xs : List Int) (w : World) (e : Ending) (w' : World) : Prop := ∃ A n c, e = .returned (.slice A n c) ∧ OwnIn w' w.heap.size w'.heap.size A n c xs ∧ Below w.heap.size w w'
theorem OwnV.row {xs : List Int} {w w' : World} {v : Value} (hO : OwnV w' w.heap.size v xs) (hb : Below w.heap.size w w') : Row1 xs w (.returned v) w' := by
 obtain ⟨A, c, rfl, hI⟩ := hO.slice_
 exact ⟨A, _, c, rfl, hI, hb⟩
end
end Go.Proofs.YtoinlkdmfclnbaaGreatDoor
