/- Bundle V16. -/
import Derived.Deep.RegionHeld3
import Derived.Test.YtoinlkdmfclnbaaGreatDoorYV14
import Derived.Test.YtoinlkdmfclnbaaGreatDoorYV15
import Derived.Test.YtoinlkdmfclnbaaGreatDoorYV4
import Derived.Test.YtoinlkdmfclnbaaGreatDoorYV9
namespace Go.Proofs.YtoinlkdmfclnbaaGreatDoor
set_option linter.unusedVariables false
section
open Go.RowKit
def FourF (w : World) (g : Nat) (kd a b : Int) (s : ByteArray) : Prop :=
 Four w g kd a b s ∧ w.frozen? ⟨g, 0, none⟩ = false ∧ w.frozen? ⟨g, 1, none⟩ = false ∧ w.frozen? ⟨g, 2, none⟩ = false ∧ w.frozen? ⟨g, 3, none⟩ = false
section
variable {w w' : World} {g B lo hi p : Nat} {kd a b : Int} {s : ByteArray}
theorem FourF.made (w : World) (T : TypeId) (kd a b : Int) (s : ByteArray) : FourF (w.alloc (.cells #[.int .i64 kd, .int .i64 a, .int .i64 b, .string s] T)) w.heap.size kd a b s := by
 have e := heap_alloc_new w (.cells #[.int .i64 kd, .int .i64 a, .int .i64 b, .string s] T)
 exact ⟨Four.made w T kd a b s, by simp only [World.frozen?, e]; simp, by simp only [World.frozen?, e]; simp, by simp only [World.frozen?, e]; simp, by simp only [World.frozen?, e]; simp⟩
theorem FourF.chg (h : FourF w g kd a b s) (hc : Chg lo hi w w') (hd : g < lo ∨ hi ≤ g) : FourF w' g kd a b s :=
 have e := hc.block g h.1.1 hd
 ⟨h.1.chg hc hd, (World.frozen?_of_block (w := w) (a := ⟨g, 0, none⟩) e).trans h.2.1, (World.frozen?_of_block (w := w) (a := ⟨g, 1, none⟩) e).trans h.2.2.1, (World.frozen?_of_block (w := w) (a := ⟨g, 2, none⟩) e).trans h.2.2.2.1, (World.frozen?_of_block (w := w) (a := ⟨g, 3, none⟩) e).trans h.2.2.2.2⟩
theorem FourF.dr (h : FourF w g kd a b s) : FourF w.drew g kd a b s := h
theorem FourF.up (h : FourF w g kd a b s) (hb : Below w.heap.size w w') : FourF w' g kd a b s := h.chg (lo := w.heap.size) (hi := w.heap.size) (Chg.of_below hb) (.inl h.1.1)
theorem Chg.cells (hc : Chg g (g + 1) w w') : ∀ b o, b < w.heap.size → ¬ b = g → w'.cell? ⟨b, o, none⟩ = w.cell? ⟨b, o, none⟩ := fun b o hb hn => World.cell?_of_block (w := w) (a := ⟨b, o, none⟩) (hc.block b hb (by omega))
theorem Chg.frozens (hc : Chg g (g + 1) w w') : ∀ b o, b < w.heap.size → ¬ b = g → w'.frozen? ⟨b, o, none⟩ = w.frozen? ⟨b, o, none⟩ := fun b o hb hn => World.frozen?_of_block (w := w) (a := ⟨b, o, none⟩) (hc.block b hb (by omega))
theorem Chg.dr {w a : World} (h : Chg lo hi w a) : Chg lo hi w a.drew := h.drewN 1
theorem Rdr.al (h : Rdr w lo g p) (o : Obj) : Rdr (w.alloc o) lo g p := h.up (below_new w o)
theorem Rdr.dr (h : Rdr w lo g p) : Rdr w.drew lo g p := h
theorem Rdr.st (h : Rdr w lo g p) {q : Addr} (h1 : lo ≤ q.block) (h2 : ¬ q.block = g) (u : Value) : Rdr (w.setCell q u) lo g p :=
 h.chg ((Chg.refl q.block (q.block + 1) w).setCell (Nat.le_refl _) (Nat.lt_succ_self _) u) h1 (by omega)
theorem FourF.set (h : FourF w g kd a b s) (x y z : Int) (u : ByteArray) : FourF ((((w.setCell ⟨g, 0, none⟩ (.int .i64 x)).setCell ⟨g, 1, none⟩ (.int .i64 y)).setCell ⟨g, 2, none⟩ (.int .i64 z)).setCell ⟨g, 3, none⟩ (.string u)) g x y z u := by
 obtain ⟨⟨h0, h1, h2, h3, h4⟩, f0, f1, f2, f3⟩ := h
 have far : ∀ (w : World) (i j : Nat) (v : Value), i ≠ j → (w.setCell ⟨g, i, none⟩ v).cell? ⟨g, j, none⟩ = w.cell? ⟨g, j, none⟩ := fun w i j v hij => World.cell?_setCell_other _ _ _ _ (by intro e; cases e; exact hij rfl)
 refine ⟨⟨by simpa using h0, ?_, ?_, ?_, ?_⟩, ?_, ?_, ?_, ?_⟩
 · rw [far _ 3 0 _ (by omega), far _ 2 0 _ (by omega), far _ 1 0 _ (by omega)]; exact World.cell?_setCell_same _ _ _ h1
 · rw [far _ 3 1 _ (by omega), far _ 2 1 _ (by omega)]; exact World.cell?_setCell_same _ _ _ ((far _ 0 1 _ (by omega)).trans h2)
 · rw [far _ 3 2 _ (by omega)]; exact World.cell?_setCell_same _ _ _ ((far _ 1 2 _ (by omega)).trans ((far _ 0 2 _ (by omega)).trans h3))
 · exact World.cell?_setCell_same _ _ _ ((far _ 2 3 _ (by omega)).trans ((far _ 1 3 _ (by omega)).trans ((far _ 0 3 _ (by omega)).trans h4)))
 all_goals
  simp only [World.frozen?_setCell]
  assumption
theorem FourF.set1 (h : FourF w g kd a b s) (y : Int) : FourF (w.setCell ⟨g, 1, none⟩ (.int .i64 y)) g kd y b s := by
 obtain ⟨⟨h0, h1, h2, h3, h4⟩, f0, f1, f2, f3⟩ := h
 have far : ∀ (i j : Nat) (v : Value), i ≠ j → (w.setCell ⟨g, i, none⟩ v).cell? ⟨g, j, none⟩ = w.cell? ⟨g, j, none⟩ := fun i j v hij => World.cell?_setCell_other _ _ _ _ (by intro e; cases e; exact hij rfl)
 refine ⟨⟨by simpa using h0, (far 1 0 _ (by omega)).trans h1, World.cell?_setCell_same _ _ _ h2, (far 1 2 _ (by omega)).trans h3, (far 1 3 _ (by omega)).trans h4⟩, ?_, ?_, ?_, ?_⟩ <;> (rw [World.frozen?_setCell]; assumption)
theorem FourF.set2 (h : FourF w g kd a b s) (y : Int) : FourF (w.setCell ⟨g, 2, none⟩ (.int .i64 y)) g kd a y s := by
 obtain ⟨⟨h0, h1, h2, h3, h4⟩, f0, f1, f2, f3⟩ := h
 have far : ∀ (i j : Nat) (v : Value), i ≠ j → (w.setCell ⟨g, i, none⟩ v).cell? ⟨g, j, none⟩ = w.cell? ⟨g, j, none⟩ := fun i j v hij => World.cell?_setCell_other _ _ _ _ (by intro e; cases e; exact hij rfl)
 refine ⟨⟨by simpa using h0, (far 2 0 _ (by omega)).trans h1, (far 2 1 _ (by omega)).trans h2, World.cell?_setCell_same _ _ _ h3, (far 2 3 _ (by omega)).trans h4⟩, ?_, ?_, ?_, ?_⟩ <;> (rw [World.frozen?_setCell]; assumption)
theorem FourF.set3 (h : FourF w g kd a b s) (u : ByteArray) : FourF (w.setCell ⟨g, 3, none⟩ (.string u)) g kd a b u := by
 obtain ⟨⟨h0, h1, h2, h3, h4⟩, f0, f1, f2, f3⟩ := h
 have far : ∀ (i j : Nat) (v : Value), i ≠ j → (w.setCell ⟨g, i, none⟩ v).cell? ⟨g, j, none⟩ = w.cell? ⟨g, j, none⟩ := fun i j v hij => World.cell?_setCell_other _ _ _ _ (by intro e; cases e; exact hij rfl)
 refine ⟨⟨by simpa using h0, (far 3 0 _ (by omega)).trans h1, (far 3 1 _ (by omega)).trans h2, (far 3 2 _ (by omega)).trans h3, World.cell?_setCell_same _ _ _ h4⟩, ?_, ?_, ?_, ?_⟩ <;> (rw [World.frozen?_setCell]; assumption)
def Out2 (wj wx : World) (lo g p : Nat) (v : Value) : Prop := ∃ b kd, v = .pointer (some ⟨b, 0, none⟩) ∧ FourF wx b kd 0 0 ⟨#[]⟩ ∧ wj.heap.size ≤ b ∧ Rdr wx lo g p ∧ Chg g (g + 1) wj wx
theorem Out2.al {wj wx : World} {v : Value} (h : Out2 wj wx lo g p v) (o : Obj) : Out2 wj (wx.alloc o) lo g p v := by
 obtain ⟨b, kd, e, hF, hb, hr, hc⟩ := h
 exact ⟨b, kd, e, hF.up (below_new _ _), hb, hr.al o, hc.allocNew o⟩
theorem outA {wj wx : World} (hr : Rdr wx lo g p) (hc : Chg g (g + 1) wj wx) (kd : Int) : Out2 wj (wx.alloc (.cells #[.int .i64 kd, .int .i64 0, .int .i64 0, .string ⟨#[]⟩] 55)) lo g p (.pointer (some ⟨wx.heap.size, 0, none⟩)) :=
 ⟨_, kd, rfl, FourF.made wx _ kd 0 0 _, hc.size, hr.al _, hc.allocNew _⟩
theorem outC {wj wx : World} (hr : Rdr wx lo g p) (hc : Chg g (g + 1) wj wx) (kd : Int) (o : Obj) : Out2 wj ((wx.alloc o).alloc (.cells #[.int .i64 kd, .int .i64 0, .int .i64 0, .string ⟨#[]⟩] 55)) lo g p (.pointer (some ⟨wx.heap.size + 1, 0, none⟩)) := by
 have h := outA (hr.al o) (hc.allocNew o) kd
 rw [World.size_alloc] at h
 exact h
theorem outB {wj wx : World} {B : Nat} (hr : Rdr wx lo g p) (hc : Chg g (g + 1) wj wx) (hF : FourF wx B 0 0 0 ⟨#[]⟩) (hB : wj.heap.size ≤ B) (hg : ¬ B = g) (hl : lo ≤ B) (kd : Int) : Out2 wj ((((wx.setCell ⟨B, 0, none⟩ (.int .i64 kd)).setCell ⟨B, 1, none⟩ (.int .i64 0)).setCell ⟨B, 2, none⟩ (.int .i64 0)).setCell ⟨B, 3, none⟩ (.string ⟨#[]⟩)) lo g p (.pointer (some ⟨B, 0, none⟩)) :=
 ⟨B, kd, rfl, hF.set _ _ _ _, hB, (((hr.st hl hg _).st hl hg _).st hl hg _).st hl hg _, (((hc.setNew hB _).setNew hB _).setNew hB _).setNew hB _⟩
end
def DeedDrawn (w : World) (lo g p : Nat) (e : Ending) (w' : World) : Prop :=
 ∃ (kd a b : Int) (s : ByteArray), e = .returned (.agg #[.int .i64 kd, .int .i64 a, .int .i64 b, .string s]) ∧ s.size ≤ 7 ∧ Rdr w' lo g (p + 100) ∧ Chg g (g + 1) w w'
structure DSt (w wx : World) (lo g q b : Nat) (kd a e : Int) (s : ByteArray) : Prop where
 d : FourF wx b kd a e s
 r : FourF wx w.heap.size 0 0 0 ⟨#[]⟩
 rdr : Rdr wx lo g q
 chg : Chg g (g + 1) w wx
 hb : w.heap.size < b
 hg : g < w.heap.size
section
variable {w wx w' : World} {lo g q q' b : Nat} {kd a e : Int} {s : ByteArray}
theorem DSt.pick (h : DSt w wx lo g q b kd a e s) (hr : Rdr w' lo g q') (hc : Chg g (g + 1) wx w') : DSt w w' lo g q' b kd a e s :=
 ⟨h.d.chg hc (.inr (by have := h.hb; have := h.hg; omega)), h.r.chg hc (.inr h.hg), hr, h.chg.chg_ hc (.inr ⟨Nat.le_refl _, Nat.le_refl _⟩), h.hb, h.hg⟩
theorem DSt.up (h : DSt w wx lo g q b kd a e s) (hb : Below wx.heap.size wx w') : DSt w w' lo g q b kd a e s :=
 ⟨h.d.up hb, h.r.up hb, h.rdr.up hb, h.chg.up_ hb, h.hb, h.hg⟩
theorem DSt.al (h : DSt w wx lo g q b kd a e s) (o : Obj) : DSt w (wx.alloc o) lo g q b kd a e s := h.up (below_new _ _)
theorem DSt.stq (h : DSt w wx lo g q b kd a e s) (i : Nat) (v : Value) : FourF (wx.setCell ⟨b, i, none⟩ v) w.heap.size 0 0 0 ⟨#[]⟩ ∧ Rdr (wx.setCell ⟨b, i, none⟩ v) lo g q ∧ Chg g (g + 1) w (wx.setCell ⟨b, i, none⟩ v) := by
 have h1 := h.hb
 have h2 := h.hg
 have h3 := h.rdr.lo
 refine ⟨h.r.chg ((Chg.refl b (b + 1) wx).setCell (p := ⟨b, i, none⟩) (Nat.le_refl _) (Nat.lt_succ_self _) v) (.inl h1), h.rdr.st (q := ⟨b, i, none⟩) (by show lo ≤ b; omega) (by show ¬ b = g; omega) v, h.chg.setNew (p := ⟨b, i, none⟩) (by show w.heap.size ≤ b; omega) v⟩
theorem DSt.s1 (h : DSt w wx lo g q b kd a e s) (y : Int) : DSt w (wx.setCell ⟨b, 1, none⟩ (.int .i64 y)) lo g q b kd y e s :=
 have k := h.stq 1 (.int .i64 y)
 ⟨h.d.set1 y, k.1, k.2.1, k.2.2, h.hb, h.hg⟩
theorem DSt.s2 (h : DSt w wx lo g q b kd a e s) (y : Int) : DSt w (wx.setCell ⟨b, 2, none⟩ (.int .i64 y)) lo g q b kd a y s :=
 have k := h.stq 2 (.int .i64 y)
 ⟨h.d.set2 y, k.1, k.2.1, k.2.2, h.hb, h.hg⟩
theorem DSt.s3 (h : DSt w wx lo g q b kd a e s) (y : ByteArray) : DSt w (wx.setCell ⟨b, 3, none⟩ (.string y)) lo g q b kd a e y :=
 have k := h.stq 3 (.string y)
 ⟨h.d.set3 y, k.1, k.2.1, k.2.2, h.hb, h.hg⟩
theorem DSt.end_ (h : DSt w wx lo g q b kd a e s) : (∀ {p : Nat}, q ≤ p + 100 → s.size ≤ 7 → DeedDrawn w lo g p (.returned (.agg #[.int .i64 kd, .int .i64 a, .int .i64 e, .string s])) ((((wx.setCell ⟨w.heap.size, 0, none⟩ (.int .i64 kd)).setCell ⟨w.heap.size, 1, none⟩ (.int .i64 a)).setCell ⟨w.heap.size, 2, none⟩ (.int .i64 e)).setCell ⟨w.heap.size, 3, none⟩ (.string s))) ∧
    (let w9 := (((wx.setCell ⟨w.heap.size, 0, none⟩ (.int .i64 kd)).setCell ⟨w.heap.size, 1, none⟩ (.int .i64 a)).setCell ⟨w.heap.size, 2, none⟩ (.int .i64 e)).setCell ⟨w.heap.size, 3, none⟩ (.string s)
     w9.cell? ⟨w.heap.size, 0, none⟩ = some (.int .i64 kd) ∧ w9.cell? ⟨w.heap.size, 1, none⟩ = some (.int .i64 a) ∧ w9.cell? ⟨w.heap.size, 2, none⟩ = some (.int .i64 e) ∧ w9.cell? ⟨w.heap.size, 3, none⟩ = some (.string s)) := by
 have hf := h.r.set kd a e s
 have h2 := h.hg
 have h3 := h.rdr.lo
 have hl : lo ≤ w.heap.size := by omega
 have hn : ¬ w.heap.size = g := by omega
 have hle := Nat.le_refl w.heap.size
 exact ⟨fun hq hs => ⟨kd, a, e, s, rfl, hs, ((((h.rdr.st (q := ⟨w.heap.size, 0, none⟩) hl hn _).st (q := ⟨w.heap.size, 1, none⟩) hl hn _).st (q := ⟨w.heap.size, 2, none⟩) hl hn _).st (q := ⟨w.heap.size, 3, none⟩) hl hn _).more hq, (((h.chg.setNew (p := ⟨w.heap.size, 0, none⟩) hle _).setNew (p := ⟨w.heap.size, 1, none⟩) hle _).setNew (p := ⟨w.heap.size, 2, none⟩) hle _).setNew (p := ⟨w.heap.size, 3, none⟩) hle _⟩, hf.1.2⟩
end
def lit3 (x : Nat) : Int := gI [-1, 8, 1000000] x
theorem lit3_at (V : World) {x : Nat} (h : x < 3) : (V.alloc (.cells #[.int .i64 (-1), .int .i64 8, .int .i64 1000000] 3)).cell? ⟨V.heap.size, x, none⟩ = some (.int .i64 (lit3 x)) := by
 rw [World.cell?_alloc_at _ _ _ _ rfl]
 match x, h with
 | 0, _ => rfl
 | 1, _ => rfl
 | 2, _ => rfl
theorem mtI_size (xs : List Int) : (mtI xs).size ≤ 7 := by
 unfold mtI
 split
 · rename_i h
   rw [mtX_size]
   exact (mapOk_bounds h).2
 · exact Nat.zero_le _
def lit7 (x : Nat) : Int := gI [0, 0, 0, 1, 2, 3, 4] x
set_option maxRecDepth 100000 in
set_option maxHeartbeats 20000000 in
theorem deed_c (g lo p n c : Nat) (A : Option Addr) (xs : List Int) (w : World) (h : Rdr w lo g p) (hF : Rd w w.heap.size A n c xs) (hp : p ≤ 100000) (hn : n ≤ 7) :
    Calls Tryz.prog 96 #[.pointer (some ⟨g, 0, none⟩), .slice A n c] w (DeedDrawn w lo g p) := by
 have hgl := h.lt
 have hlog := h.lo
 have hcF := hF.cap
 have hmF := hF.max
 unfold maxLen at hmF
 have hbR := below_new w (.cells #[.int .i64 0, .int .i64 0, .int .i64 0, .string ⟨#[]⟩] 55)
 have hR1 := FourF.made w 55 0 0 0 ⟨#[]⟩
 have hr1 := h.up hbR
 have hgz : g < (w.alloc (.cells #[.int .i64 0, .int .i64 0, .int .i64 0, .string ⟨#[]⟩] 55)).heap.size := hr1.lt
 have hc1 : Chg g (g + 1) w (w.alloc (.cells #[.int .i64 0, .int .i64 0, .int .i64 0, .string ⟨#[]⟩] 55)) := (Chg.refl _ _ _).allocNew _
 go_enter Tryz.func96, Tryz.ntmps96
 go_upto_region 2 with fail
 generalize w.alloc (.cells #[.int .i64 0, .int .i64 0, .int .i64 0, .string ⟨#[]⟩] 55) = w1 at *
 have hrd : Rdr w1.drew lo g p := hr1.dn 1
 have hgd : g < w1.drew.heap.size := hgz
 have hcd : Chg g (g + 1) w w1.drew := hc1.drewN 1
 go_cut [6] (fun s6 wx => Out2 w1 wx lo g (p + 1 + 1) s6)
 case first =>
  have hC0 : Chg g (g + 1) w1 w1.drew := (Chg.refl _ _ w1).drewN 1
  have hn0 : ¬ w1.heap.size = g := by omega
  have hn1 : ¬ w1.heap.size + 1 = g := by omega
  clear hR1 h hF hcF hmF hn hrd hgd hcd hbR hc1
  go_region_with (first
   | (go_at_call_of 69 (Value.int IntKind.i64 7); refine (pick_c g lo p 7 _ (by repeat (first | with_reducible exact hr1 | with_reducible refine Rdr.dr ?_ | with_reducible refine Rdr.al ?_ _)) (by omega) (by omega)).mono ?_; rintro e w2 ⟨x, rfl, hx, hr2, hc2⟩; have hk2 := hc2.cells; have hf2 := hc2.frozens; have hz2 := hc2.size; (try have hl2a : w1.heap.size < w2.heap.size := by (have := hc2.size; (try simp at this); omega)); (try have fz2 : FourF w2 w1.heap.size 0 0 0 ⟨#[]⟩ := FourF.chg (by first | with_reducible exact (FourF.made w1 _ 0 0 0 ⟨#[]⟩).dr | with_reducible exact ((FourF.made w1 _ 0 0 0 ⟨#[]⟩).up (below_new _ _)).dr) hc2 (by omega)); (try have fy2 : FourF w2 (w1.heap.size + 1) 0 0 0 ⟨#[]⟩ := FourF.chg (by (have h9 := FourF.made (w1.alloc (.cells #[.int .i64 0, .int .i64 0, .int .i64 0, .int .i64 1, .int .i64 2, .int .i64 3, .int .i64 4] 3)) 55 0 0 0 ⟨#[]⟩; rw [World.size_alloc] at h9; with_reducible exact h9.dr)) hc2 (by omega)); (try have hl2b : w1.heap.size + 1 < w2.heap.size := by (have := hc2.size; (try simp at this); omega)); have hx7 := hx (by omega); have hxn : x < 7 := (by omega); have hx0 : (0 : Int) ≤ (x : Int) := Int.natCast_nonneg _; have hel : ∀ h : x < [Value.int .i64 0, Value.int .i64 0, Value.int .i64 0, Value.int .i64 1, Value.int .i64 2, Value.int .i64 3, Value.int .i64 4].length, [Value.int .i64 0, Value.int .i64 0, Value.int .i64 0, Value.int .i64 1, Value.int .i64 2, Value.int .i64 3, Value.int .i64 4][x]'h = Value.int .i64 (lit7 x) := (fun h => by match x, hxn with | 0, _ => rfl | 1, _ => rfl | 2, _ => rfl | 3, _ => rfl | 4, _ => rfl | 5, _ => rfl | 6, _ => rfl); have hn20 : ¬ w2.heap.size = g := (by have := hr2.lt; omega); have hn21 : ¬ w2.heap.size + 1 = g := (by have := hr2.lt; omega))
   | (go_at_call_of 69 (Value.int IntKind.i64 60); refine (pick_c g lo (p + 1) 60 _ (by repeat (first | with_reducible exact hr2 | with_reducible refine Rdr.dr ?_ | with_reducible refine Rdr.al ?_ _)) (by omega) (by omega)).mono ?_; rintro e w3 ⟨y, rfl, hy, hr3, hc3⟩; have hk3 := hc3.cells; have hf3 := hc3.frozens; have hz3 := hc3.size; (try have hl3a : w1.heap.size < w3.heap.size := by (have := hc3.size; (try simp at this); omega)); (try have hl3b : w1.heap.size + 1 < w3.heap.size := by (have := hc3.size; (try simp at this); omega)); (try have hl3c : w2.heap.size < w3.heap.size := by (have := hc3.size; (try simp at this); omega)); (try have hl3d : w2.heap.size + 1 < w3.heap.size := by (have := hc3.size; (try simp at this); omega)); (try have fz3 : FourF w3 w1.heap.size 0 0 0 ⟨#[]⟩ := FourF.chg (by first | with_reducible exact fz2 | with_reducible exact fz2.up (below_new _ _)) hc3 (by omega)); (try have fy3 : FourF w3 (w1.heap.size + 1) 0 0 0 ⟨#[]⟩ := FourF.chg (by first | with_reducible exact fy2 | with_reducible exact fy2.up (below_new _ _)) hc3 (by omega)); (try have fu3 : FourF w3 w2.heap.size 0 0 0 ⟨#[]⟩ := FourF.chg (by first | with_reducible exact FourF.made w2 _ 0 0 0 ⟨#[]⟩ | with_reducible exact (FourF.made w2 _ 0 0 0 ⟨#[]⟩).up (below_new _ _)) hc3 (by omega)); (try have fv3 : FourF w3 (w2.heap.size + 1) 0 0 0 ⟨#[]⟩ := FourF.chg (by (have h9 := FourF.made (w2.alloc (.cells #[.int .i64 0, .int .i64 0, .int .i64 0, .int .i64 1, .int .i64 2, .int .i64 3, .int .i64 4] 3)) 55 0 0 0 ⟨#[]⟩; rw [World.size_alloc] at h9; with_reducible exact h9)) hc3 (by omega)); have hC2 : Chg g (g + 1) w1 w2 := (by refine Chg.chg_ (lo' := g) (hi' := g + 1) ?_ hc2 (.inr ⟨Nat.le_refl _, Nat.le_refl _⟩); repeat (first | with_reducible exact Chg.refl _ _ _ | with_reducible refine Chg.dr ?_ | with_reducible refine Chg.allocNew ?_ _)); have hC3 : Chg g (g + 1) w1 w3 := (by refine Chg.chg_ (lo' := g) (hi' := g + 1) ?_ hc3 (.inr ⟨Nat.le_refl _, Nat.le_refl _⟩); repeat (first | with_reducible exact hC2 | with_reducible refine Chg.allocNew ?_ _)); have hz12 := hC2.size; have hg2 := hr2.lt; have hy60 := hy (by omega); have hy0 : (0 : Int) ≤ (y : Int) := Int.natCast_nonneg _))
  all_goals
   go_wp2_with fail
   go_meet
   first
    | with_reducible exact outA hr3 hC3 _
    | with_reducible exact outB hr3 hC3 fz3 (by omega) (by omega) (by omega) _
    | with_reducible exact outB hr3 hC3 fy3 (by omega) (by omega) (by omega) _
    | with_reducible exact outB hr3 hC3 fu3 (by omega) (by omega) (by omega) _
    | with_reducible exact outB hr3 hC3 fv3 (by omega) (by omega) (by omega) _
    | with_reducible exact outC hr3 hC3 _ _
    | with_reducible exact (outA hr3 hC3 _).al _
    | with_reducible exact (outB hr3 hC3 fz3 (by omega) (by omega) (by omega) _).al _
    | with_reducible exact (outB hr3 hC3 fy3 (by omega) (by omega) (by omega) _).al _
    | with_reducible exact (outB hr3 hC3 fu3 (by omega) (by omega) (by omega) _).al _
    | with_reducible exact (outB hr3 hC3 fv3 (by omega) (by omega) (by omega) _).al _
 case rest =>
  obtain ⟨b, kd, rfl, hD, hbz, hr2, hc2⟩ := hcut
  generalize wc = w2 at *
  have st2 : DSt w w2 lo g (p + 1 + 1) b kd 0 0 ⟨#[]⟩ := ⟨hD, hR1.chg hc2 (.inr (by omega)), hr2, hc1.chg_ hc2 (.inr ⟨Nat.le_refl _, Nat.le_refl _⟩), by have := hR1.1.1; omega, hgl⟩
  clear hD hr2 hR1 hrd hgd hcd hbR hc1 hc2 hr1
  obtain ⟨M, hM⟩ : ∃ M : Nat, M = max n 1 := ⟨_, rfl⟩
  have hmx : max (n : Int) 1 = (M : Int) := by omega
  have hM1 : 1 ≤ M ∧ M ≤ 7 := by omega
  obtain ⟨hM1, hM7⟩ := hM1
  clear hM
  have hkd : kd = 0 ∨ kd = 1 ∨ kd = 2 ∨ kd = 3 ∨ (¬ kd = 0 ∧ ¬ kd = 1 ∧ ¬ kd = 2 ∧ ¬ kd = 3) := by omega
  obtain ⟨⟨_, c0, c1, c2, c3⟩, f0, f1, f2, f3⟩ := id st2.d
  rcases hkd with hk | hk | hk | hk | ⟨hk0, hk1, hk2, hk3⟩
  · subst hk
    go_wp2_with fail
    clear c0 c1 c2 c3 f0 f1 f2 f3
    refine (pick_c g lo (p + 1 + 1) (M : Int) _ st2.rdr (by omega) (by omega)).mono ?_
    rintro e w3 ⟨x3, rfl, hx3, hr3, hc3⟩
    have st3 := st2.pick hr3 hc3
    clear hr3 st2
    obtain ⟨⟨_, c0, c1, c2, c3⟩, f0, f1, f2, f3⟩ := id st3.d
    go_wp2_with fail
    clear c0 c1 c2 c3 f0 f1 f2 f3
    have st4 := st3.s1 (x3 : Int)
    clear st3
    refine (pick_c g lo (p + 1 + 1 + 1) (M : Int) _ st4.rdr (by omega) (by omega)).mono ?_
    rintro e w5 ⟨x5, rfl, hx5, hr5, hc5⟩
    have st5 := st4.pick hr5 hc5
    clear hr5 st4
    obtain ⟨⟨_, c0, c1, c2, c3⟩, f0, f1, f2, f3⟩ := id st5.d
    go_wp2_with fail
    clear c0 c1 c2 c3 f0 f1 f2 f3
    have st6 := st5.s2 (x5 : Int)
    clear st5
    refine (odd_c g lo (p + 1 + 1 + 1 + 1) 40 _ st6.rdr (by omega) (by omega)).mono ?_
    rintro e w20 ⟨bo, rfl, hr20, hc20⟩
    have st20 := st6.pick hr20 hc20
    clear st6 hr20 hc20
    rcases bo with _ | _
    · have hE := Lib.hid st20.end_
      obtain ⟨⟨_, c0, c1, c2, c3⟩, f0, f1, f2, f3⟩ := id st20.d
      obtain ⟨⟨_, r0, r1, r2, r3⟩, v0, v1, v2, v3⟩ := id st20.r
      clear st20
      go_wp2_with fail
      (try simp only [Exit.inBlock, Exit.then])
      refine bodyPost_ret (v := .agg #[.int .i64 0, .int .i64 (x3 : Int), .int .i64 (x5 : Int), .string ⟨#[]⟩]) ?_ rfl (hE.out.1 (by omega) (by first | omega | exact Nat.zero_le _))
      exact results_four (p := 4) rfl _ _ w.heap.size _ _ _ _ _ rfl hE.out.2 Tryz.underlying55 rfl deed_size
    · have st21 := st20.al (.cells #[.int .i64 (-1), .int .i64 8, .int .i64 1000000] 3)
      have hgl20 := st20.rdr.lt
      obtain ⟨⟨_, c0, c1, c2, c3⟩, f0, f1, f2, f3⟩ := id st20.d
      go_wp2_with fail
      clear c0 c1 c2 c3 f0 f1 f2 f3
      refine (pick_c g lo ((p + 1 + 1 + 1 + 1) + 1) 3 _ st21.rdr (by omega) (by omega)).mono ?_
      rintro e w22 ⟨x22, rfl, hx22, hr22, hc22⟩
      have st22 := st21.pick hr22 hc22
      have hx3 := hx22 (by omega)
      have hx3n : x22 < 3 := by omega
      have hcell : w22.cell? ⟨w20.heap.size, x22, none⟩ = some (.int .i64 (lit3 x22)) := (hc22.cells w20.heap.size x22 (by simp) (by omega)).trans (lit3_at w20 hx3n)
      have hx0 : (0 : Int) ≤ (x22 : Int) := Int.natCast_nonneg _
      have st23 := st22.s1 (lit3 x22)
      have hE := Lib.hid st23.end_
      obtain ⟨⟨_, c0, c1, c2, c3⟩, f0, f1, f2, f3⟩ := id st22.d
      obtain ⟨⟨_, r0, r1, r2, r3⟩, v0, v1, v2, v3⟩ := id st22.r
      obtain ⟨⟨_, d0, d1, d2, d3⟩, e0, e1, e2, e3⟩ := id st23.d
      obtain ⟨⟨_, s0, s1, s2, s3⟩, u0, u1, u2, u3⟩ := id st23.r
      clear st20 st21 st22 st23 hc22 hr22 hx22
      go_wp2_with fail
      (try simp only [Exit.inBlock, Exit.then])
      refine bodyPost_ret (v := .agg #[.int .i64 0, .int .i64 (lit3 x22), .int .i64 (x5 : Int), .string ⟨#[]⟩]) ?_ rfl (hE.out.1 (by omega) (by first | omega | exact Nat.zero_le _))
      exact results_four (p := 4) rfl _ _ w.heap.size _ _ _ _ _ rfl hE.out.2 Tryz.underlying55 rfl deed_size
  · subst hk
    go_wp2_with fail
    clear c0 c1 c2 c3 f0 f1 f2 f3
    refine (names_c g lo (p + 1 + 1) M _ st2.rdr (by omega) hM7).mono ?_
    rintro e w3 ⟨A3, n3, k3, xs3, rfl, hO3, _, hr3, hc3⟩
    have st3 := st2.pick hr3 hc3
    clear st2 hr3 hc3
    go_wp2_with fail
    refine (mapText_c A3 n3 k3 xs3 _ hO3.rd).mono ?_
    rintro e w4 ⟨rfl, hb4⟩
    have st4 := st3.up hb4
    have hs4 := mtI_size xs3
    clear st3 hO3 hb4
    generalize mtI xs3 = t3 at *
    obtain ⟨⟨_, c0, c1, c2, c3⟩, f0, f1, f2, f3⟩ := id st4.d
    go_wp2_with fail
    clear c0 c1 c2 c3 f0 f1 f2 f3
    have st5 := st4.s3 t3
    clear st4
    refine (pick_c g lo (p + 1 + 1 + 30) 2 _ st5.rdr (by omega) (by omega)).mono ?_
    rintro e w6 ⟨x6, rfl, hx6, hr6, hc6⟩
    have st6 := st5.pick hr6 hc6
    clear hr6 st5
    have hx6c : x6 = 0 ∨ ¬ x6 = 0 := by omega
    rcases hx6c with h0 | h0
    · subst h0
      go_wp2_with fail
      refine (map_c g lo (p + 1 + 1 + 30 + 1) 7 0 _ st6.rdr (by omega) (by omega) (by omega) (by omega)).mono ?_
      rintro e w7 ⟨A7, n7, k7, xs7, rfl, hO7, _, hr7, hc7⟩
      have st7 := st6.pick hr7 hc7
      clear st6 hr7 hc7
      go_wp2_with fail
      refine (mapText_c A7 n7 k7 xs7 _ hO7.rd).mono ?_
      rintro e w8 ⟨rfl, hb8⟩
      have st8 := st7.up hb8
      have hs8 := mtI_size xs7
      clear st7 hO7 hb8
      generalize mtI xs7 = t7 at *
      obtain ⟨⟨_, c0, c1, c2, c3⟩, f0, f1, f2, f3⟩ := id st8.d
      go_wp2_with fail
      clear c0 c1 c2 c3 f0 f1 f2 f3
      have st9 := st8.s3 t7
      clear st8
      refine (odd_c g lo (p + 1 + 1 + 30 + 1 + 30) 40 _ st9.rdr (by omega) (by omega)).mono ?_
      rintro e w20 ⟨bo, rfl, hr20, hc20⟩
      have st20 := st9.pick hr20 hc20
      clear st9 hr20 hc20
      rcases bo with _ | _
      · have hE := Lib.hid st20.end_
        obtain ⟨⟨_, c0, c1, c2, c3⟩, f0, f1, f2, f3⟩ := id st20.d
        obtain ⟨⟨_, r0, r1, r2, r3⟩, v0, v1, v2, v3⟩ := id st20.r
        clear st20
        go_wp2_with fail
        (try simp only [Exit.inBlock, Exit.then])
        refine bodyPost_ret (v := .agg #[.int .i64 1, .int .i64 0, .int .i64 0, .string t7]) ?_ rfl (hE.out.1 (by omega) (by first | omega | exact Nat.zero_le _))
        exact results_four (p := 4) rfl _ _ w.heap.size _ _ _ _ _ rfl hE.out.2 Tryz.underlying55 rfl deed_size
      · have st21 := st20.al (.cells #[.int .i64 (-1), .int .i64 8, .int .i64 1000000] 3)
        have hgl20 := st20.rdr.lt
        obtain ⟨⟨_, c0, c1, c2, c3⟩, f0, f1, f2, f3⟩ := id st20.d
        go_wp2_with fail
        clear c0 c1 c2 c3 f0 f1 f2 f3
        refine (pick_c g lo ((p + 1 + 1 + 30 + 1 + 30) + 1) 3 _ st21.rdr (by omega) (by omega)).mono ?_
        rintro e w22 ⟨x22, rfl, hx22, hr22, hc22⟩
        have st22 := st21.pick hr22 hc22
        have hx3 := hx22 (by omega)
        have hx3n : x22 < 3 := by omega
        have hcell : w22.cell? ⟨w20.heap.size, x22, none⟩ = some (.int .i64 (lit3 x22)) := (hc22.cells w20.heap.size x22 (by simp) (by omega)).trans (lit3_at w20 hx3n)
        have hx0 : (0 : Int) ≤ (x22 : Int) := Int.natCast_nonneg _
        have st23 := st22.s1 (lit3 x22)
        have hE := Lib.hid st23.end_
        obtain ⟨⟨_, c0, c1, c2, c3⟩, f0, f1, f2, f3⟩ := id st22.d
        obtain ⟨⟨_, r0, r1, r2, r3⟩, v0, v1, v2, v3⟩ := id st22.r
        obtain ⟨⟨_, d0, d1, d2, d3⟩, e0, e1, e2, e3⟩ := id st23.d
        obtain ⟨⟨_, s0, s1, s2, s3⟩, u0, u1, u2, u3⟩ := id st23.r
        clear st20 st21 st22 st23 hc22 hr22 hx22
        go_wp2_with fail
        (try simp only [Exit.inBlock, Exit.then])
        refine bodyPost_ret (v := .agg #[.int .i64 1, .int .i64 (lit3 x22), .int .i64 0, .string t7]) ?_ rfl (hE.out.1 (by omega) (by first | omega | exact Nat.zero_le _))
        exact results_four (p := 4) rfl _ _ w.heap.size _ _ _ _ _ rfl hE.out.2 Tryz.underlying55 rfl deed_size
    · have hx6b : ((x6 : Int) == 0) = false := by rw [beq_eq_false_iff_ne]; omega
      go_wp2_with fail
      refine (odd_c g lo (p + 1 + 1 + 30 + 1) 40 _ st6.rdr (by omega) (by omega)).mono ?_
      rintro e w20 ⟨bo, rfl, hr20, hc20⟩
      have st20 := st6.pick hr20 hc20
      clear st6 hr20 hc20
      rcases bo with _ | _
      · have hE := Lib.hid st20.end_
        obtain ⟨⟨_, c0, c1, c2, c3⟩, f0, f1, f2, f3⟩ := id st20.d
        obtain ⟨⟨_, r0, r1, r2, r3⟩, v0, v1, v2, v3⟩ := id st20.r
        clear st20
        go_wp2_with fail
        (try simp only [Exit.inBlock, Exit.then])
        refine bodyPost_ret (v := .agg #[.int .i64 1, .int .i64 0, .int .i64 0, .string t3]) ?_ rfl (hE.out.1 (by omega) (by first | omega | exact Nat.zero_le _))
        exact results_four (p := 4) rfl _ _ w.heap.size _ _ _ _ _ rfl hE.out.2 Tryz.underlying55 rfl deed_size
      · have st21 := st20.al (.cells #[.int .i64 (-1), .int .i64 8, .int .i64 1000000] 3)
        have hgl20 := st20.rdr.lt
        obtain ⟨⟨_, c0, c1, c2, c3⟩, f0, f1, f2, f3⟩ := id st20.d
        go_wp2_with fail
        clear c0 c1 c2 c3 f0 f1 f2 f3
        refine (pick_c g lo ((p + 1 + 1 + 30 + 1) + 1) 3 _ st21.rdr (by omega) (by omega)).mono ?_
        rintro e w22 ⟨x22, rfl, hx22, hr22, hc22⟩
        have st22 := st21.pick hr22 hc22
        have hx3 := hx22 (by omega)
        have hx3n : x22 < 3 := by omega
        have hcell : w22.cell? ⟨w20.heap.size, x22, none⟩ = some (.int .i64 (lit3 x22)) := (hc22.cells w20.heap.size x22 (by simp) (by omega)).trans (lit3_at w20 hx3n)
        have hx0 : (0 : Int) ≤ (x22 : Int) := Int.natCast_nonneg _
        have st23 := st22.s1 (lit3 x22)
        have hE := Lib.hid st23.end_
        obtain ⟨⟨_, c0, c1, c2, c3⟩, f0, f1, f2, f3⟩ := id st22.d
        obtain ⟨⟨_, r0, r1, r2, r3⟩, v0, v1, v2, v3⟩ := id st22.r
        obtain ⟨⟨_, d0, d1, d2, d3⟩, e0, e1, e2, e3⟩ := id st23.d
        obtain ⟨⟨_, s0, s1, s2, s3⟩, u0, u1, u2, u3⟩ := id st23.r
        clear st20 st21 st22 st23 hc22 hr22 hx22
        go_wp2_with fail
        (try simp only [Exit.inBlock, Exit.then])
        refine bodyPost_ret (v := .agg #[.int .i64 1, .int .i64 (lit3 x22), .int .i64 0, .string t3]) ?_ rfl (hE.out.1 (by omega) (by first | omega | exact Nat.zero_le _))
        exact results_four (p := 4) rfl _ _ w.heap.size _ _ _ _ _ rfl hE.out.2 Tryz.underlying55 rfl deed_size
  · subst hk
    go_wp2_with fail
    clear c0 c1 c2 c3 f0 f1 f2 f3
    refine (pick_c g lo (p + 1 + 1) 5 _ st2.rdr (by omega) (by omega)).mono ?_
    rintro e w3 ⟨x3, rfl, hx3, hr3, hc3⟩
    have st3 := st2.pick hr3 hc3
    clear hr3 st2
    go_wp2_with fail
    refine (pick_c g lo (p + 1 + 1 + 1) 20 _ st3.rdr (by omega) (by omega)).mono ?_
    rintro e w4 ⟨x4, rfl, hx4, hr4, hc4⟩
    have st4 := st3.pick hr4 hc4
    clear hr4 st3
    have hx4' := hx4 (by omega)
    have hx40 : (0 : Int) ≤ (x4 : Int) := Int.natCast_nonneg _
    have hx3' := hx3 (by omega)
    have hx30 : (0 : Int) ≤ (x3 : Int) := Int.natCast_nonneg _
    obtain ⟨⟨_, c0, c1, c2, c3⟩, f0, f1, f2, f3⟩ := id st4.d
    go_wp2_with fail
    clear c0 c1 c2 c3 f0 f1 f2 f3
    have st5 := st4.s1 ((x3 : Int) + (x4 : Int) / 19 * 999990)
    clear st4
    refine (odd_c g lo (p + 1 + 1 + 1 + 1) 40 _ st5.rdr (by omega) (by omega)).mono ?_
    rintro e w20 ⟨bo, rfl, hr20, hc20⟩
    have st20 := st5.pick hr20 hc20
    clear st5 hr20 hc20
    rcases bo with _ | _
    · have hE := Lib.hid st20.end_
      obtain ⟨⟨_, c0, c1, c2, c3⟩, f0, f1, f2, f3⟩ := id st20.d
      obtain ⟨⟨_, r0, r1, r2, r3⟩, v0, v1, v2, v3⟩ := id st20.r
      clear st20
      go_wp2_with fail
      (try simp only [Exit.inBlock, Exit.then])
      refine bodyPost_ret (v := .agg #[.int .i64 2, .int .i64 ((x3 : Int) + (x4 : Int) / 19 * 999990), .int .i64 0, .string ⟨#[]⟩]) ?_ rfl (hE.out.1 (by omega) (by first | omega | exact Nat.zero_le _))
      exact results_four (p := 4) rfl _ _ w.heap.size _ _ _ _ _ rfl hE.out.2 Tryz.underlying55 rfl deed_size
    · have st21 := st20.al (.cells #[.int .i64 (-1), .int .i64 8, .int .i64 1000000] 3)
      have hgl20 := st20.rdr.lt
      obtain ⟨⟨_, c0, c1, c2, c3⟩, f0, f1, f2, f3⟩ := id st20.d
      go_wp2_with fail
      clear c0 c1 c2 c3 f0 f1 f2 f3
      refine (pick_c g lo ((p + 1 + 1 + 1 + 1) + 1) 3 _ st21.rdr (by omega) (by omega)).mono ?_
      rintro e w22 ⟨x22, rfl, hx22, hr22, hc22⟩
      have st22 := st21.pick hr22 hc22
      have hx3 := hx22 (by omega)
      have hx3n : x22 < 3 := by omega
      have hcell : w22.cell? ⟨w20.heap.size, x22, none⟩ = some (.int .i64 (lit3 x22)) := (hc22.cells w20.heap.size x22 (by simp) (by omega)).trans (lit3_at w20 hx3n)
      have hx0 : (0 : Int) ≤ (x22 : Int) := Int.natCast_nonneg _
      have st23 := st22.s1 (lit3 x22)
      have hE := Lib.hid st23.end_
      obtain ⟨⟨_, c0, c1, c2, c3⟩, f0, f1, f2, f3⟩ := id st22.d
      obtain ⟨⟨_, r0, r1, r2, r3⟩, v0, v1, v2, v3⟩ := id st22.r
      obtain ⟨⟨_, d0, d1, d2, d3⟩, e0, e1, e2, e3⟩ := id st23.d
      obtain ⟨⟨_, s0, s1, s2, s3⟩, u0, u1, u2, u3⟩ := id st23.r
      clear st20 st21 st22 st23 hc22 hr22 hx22
      go_wp2_with fail
      (try simp only [Exit.inBlock, Exit.then])
      refine bodyPost_ret (v := .agg #[.int .i64 2, .int .i64 (lit3 x22), .int .i64 0, .string ⟨#[]⟩]) ?_ rfl (hE.out.1 (by omega) (by first | omega | exact Nat.zero_le _))
      exact results_four (p := 4) rfl _ _ w.heap.size _ _ _ _ _ rfl hE.out.2 Tryz.underlying55 rfl deed_size
  · subst hk
    go_wp2_with fail
    clear c0 c1 c2 c3 f0 f1 f2 f3
    refine (names_c g lo (p + 1 + 1) M _ st2.rdr (by omega) hM7).mono ?_
    rintro e w3 ⟨A3, n3, k3, xs3, rfl, hO3, _, hr3, hc3⟩
    have st3 := st2.pick hr3 hc3
    clear st2 hr3 hc3
    go_wp2_with fail
    refine (mapText_c A3 n3 k3 xs3 _ hO3.rd).mono ?_
    rintro e w4 ⟨rfl, hb4⟩
    have st4 := st3.up hb4
    have hs4 := mtI_size xs3
    clear st3 hO3 hb4
    generalize mtI xs3 = t3 at *
    obtain ⟨⟨_, c0, c1, c2, c3⟩, f0, f1, f2, f3⟩ := id st4.d
    go_wp2_with fail
    clear c0 c1 c2 c3 f0 f1 f2 f3
    have st5 := st4.s3 t3
    clear st4
    refine (odd_c g lo (p + 1 + 1 + 30) 40 _ st5.rdr (by omega) (by omega)).mono ?_
    rintro e w20 ⟨bo, rfl, hr20, hc20⟩
    have st20 := st5.pick hr20 hc20
    clear st5 hr20 hc20
    rcases bo with _ | _
    · have hE := Lib.hid st20.end_
      obtain ⟨⟨_, c0, c1, c2, c3⟩, f0, f1, f2, f3⟩ := id st20.d
      obtain ⟨⟨_, r0, r1, r2, r3⟩, v0, v1, v2, v3⟩ := id st20.r
      clear st20
      go_wp2_with fail
      (try simp only [Exit.inBlock, Exit.then])
      refine bodyPost_ret (v := .agg #[.int .i64 3, .int .i64 0, .int .i64 0, .string t3]) ?_ rfl (hE.out.1 (by omega) (by first | omega | exact Nat.zero_le _))
      exact results_four (p := 4) rfl _ _ w.heap.size _ _ _ _ _ rfl hE.out.2 Tryz.underlying55 rfl deed_size
    · have st21 := st20.al (.cells #[.int .i64 (-1), .int .i64 8, .int .i64 1000000] 3)
      have hgl20 := st20.rdr.lt
      obtain ⟨⟨_, c0, c1, c2, c3⟩, f0, f1, f2, f3⟩ := id st20.d
      go_wp2_with fail
      clear c0 c1 c2 c3 f0 f1 f2 f3
      refine (pick_c g lo ((p + 1 + 1 + 30) + 1) 3 _ st21.rdr (by omega) (by omega)).mono ?_
      rintro e w22 ⟨x22, rfl, hx22, hr22, hc22⟩
      have st22 := st21.pick hr22 hc22
      have hx3 := hx22 (by omega)
      have hx3n : x22 < 3 := by omega
      have hcell : w22.cell? ⟨w20.heap.size, x22, none⟩ = some (.int .i64 (lit3 x22)) := (hc22.cells w20.heap.size x22 (by simp) (by omega)).trans (lit3_at w20 hx3n)
      have hx0 : (0 : Int) ≤ (x22 : Int) := Int.natCast_nonneg _
      have st23 := st22.s1 (lit3 x22)
      have hE := Lib.hid st23.end_
      obtain ⟨⟨_, c0, c1, c2, c3⟩, f0, f1, f2, f3⟩ := id st22.d
      obtain ⟨⟨_, r0, r1, r2, r3⟩, v0, v1, v2, v3⟩ := id st22.r
      obtain ⟨⟨_, d0, d1, d2, d3⟩, e0, e1, e2, e3⟩ := id st23.d
      obtain ⟨⟨_, s0, s1, s2, s3⟩, u0, u1, u2, u3⟩ := id st23.r
      clear st20 st21 st22 st23 hc22 hr22 hx22
      go_wp2_with fail
      (try simp only [Exit.inBlock, Exit.then])
      refine bodyPost_ret (v := .agg #[.int .i64 3, .int .i64 (lit3 x22), .int .i64 0, .string t3]) ?_ rfl (hE.out.1 (by omega) (by first | omega | exact Nat.zero_le _))
      exact results_four (p := 4) rfl _ _ w.heap.size _ _ _ _ _ rfl hE.out.2 Tryz.underlying55 rfl deed_size
  · have q0 : (kd == 0) = false := by simpa using hk0
    have q1 : (kd == 1) = false := by simpa using hk1
    have q2 : (kd == 2) = false := by simpa using hk2
    have q3 : (kd == 3) = false := by simpa using hk3
    clear hk0 hk1 hk2 hk3
    go_wp2_with fail
    clear c0 c1 c2 c3 f0 f1 f2 f3
    refine (odd_c g lo (p + 1 + 1) 40 _ st2.rdr (by omega) (by omega)).mono ?_
    rintro e w20 ⟨bo, rfl, hr20, hc20⟩
    have st20 := st2.pick hr20 hc20
    clear st2 hr20 hc20
    rcases bo with _ | _
    · have hE := Lib.hid st20.end_
      obtain ⟨⟨_, c0, c1, c2, c3⟩, f0, f1, f2, f3⟩ := id st20.d
      obtain ⟨⟨_, r0, r1, r2, r3⟩, v0, v1, v2, v3⟩ := id st20.r
      clear st20
      go_wp2_with fail
      (try simp only [Exit.inBlock, Exit.then])
      refine bodyPost_ret (v := .agg #[.int .i64 kd, .int .i64 0, .int .i64 0, .string ⟨#[]⟩]) ?_ rfl (hE.out.1 (by omega) (by first | omega | exact Nat.zero_le _))
      exact results_four (p := 4) rfl _ _ w.heap.size _ _ _ _ _ rfl hE.out.2 Tryz.underlying55 rfl deed_size
    · have st21 := st20.al (.cells #[.int .i64 (-1), .int .i64 8, .int .i64 1000000] 3)
      have hgl20 := st20.rdr.lt
      obtain ⟨⟨_, c0, c1, c2, c3⟩, f0, f1, f2, f3⟩ := id st20.d
      go_wp2_with fail
      clear c0 c1 c2 c3 f0 f1 f2 f3
      refine (pick_c g lo ((p + 1 + 1) + 1) 3 _ st21.rdr (by omega) (by omega)).mono ?_
      rintro e w22 ⟨x22, rfl, hx22, hr22, hc22⟩
      have st22 := st21.pick hr22 hc22
      have hx3 := hx22 (by omega)
      have hx3n : x22 < 3 := by omega
      have hcell : w22.cell? ⟨w20.heap.size, x22, none⟩ = some (.int .i64 (lit3 x22)) := (hc22.cells w20.heap.size x22 (by simp) (by omega)).trans (lit3_at w20 hx3n)
      have hx0 : (0 : Int) ≤ (x22 : Int) := Int.natCast_nonneg _
      have st23 := st22.s1 (lit3 x22)
      have hE := Lib.hid st23.end_
      obtain ⟨⟨_, c0, c1, c2, c3⟩, f0, f1, f2, f3⟩ := id st22.d
      obtain ⟨⟨_, r0, r1, r2, r3⟩, v0, v1, v2, v3⟩ := id st22.r
      obtain ⟨⟨_, d0, d1, d2, d3⟩, e0, e1, e2, e3⟩ := id st23.d
      obtain ⟨⟨_, s0, s1, s2, s3⟩, u0, u1, u2, u3⟩ := id st23.r
      clear st20 st21 st22 st23 hc22 hr22 hx22
      go_wp2_with fail
      (try simp only [Exit.inBlock, Exit.then])
      refine bodyPost_ret (v := .agg #[.int .i64 kd, .int .i64 (lit3 x22), .int .i64 0, .string ⟨#[]⟩]) ?_ rfl (hE.out.1 (by omega) (by first | omega | exact Nat.zero_le _))
      exact results_four (p := 4) rfl _ _ w.heap.size _ _ _ _ _ rfl hE.out.2 Tryz.underlying55 rfl deed_size
end
section
open Go.RowKit
section
variable {w w' : World} {B lo a b n c m d : Nat} {A P : Option Addr} {xs : List Int} {yss : List (List Int)}
theorem Rd.chgF (h : Rd w w.heap.size A n c xs) (hA : ∀ q, (Value.slice A n c).ownBlock = some q → lo ≤ q) (hc : Chg a b w w') (hb : b ≤ lo) : Rd w' w'.heap.size A n c xs :=
 ⟨h.1, h.2.1, h.2.2.1, fun hn => by
  obtain ⟨k, off, e, hk, hcell⟩ := h.2.2.2 hn
  subst e
  have hl := hA k rfl
  exact ⟨k, off, rfl, Nat.lt_of_lt_of_le hk hc.size, fun j hj => (World.cell?_of_block (w := w) (a := ⟨k, off + j, none⟩) (hc.block k hk (.inr (by omega)))).trans (hcell j hj)⟩⟩
theorem RdD.chgF (h : RdD w w.heap.size A n c xs P m d yss) (hf : FreshD w lo A n c P m d) (hc : Chg a b w w') (hb : b ≤ lo) : RdD w' w'.heap.size A n c xs P m d yss :=
 ⟨h.1.chgF hf.1 hc hb, ⟨h.2.1, h.2.2.1, h.2.2.2.1, fun hn => by
  obtain ⟨k, off, e, hk, hcell⟩ := h.2.2.2.2 hn
  subst e
  have hl := hf.2.1 k rfl
  refine ⟨k, off, rfl, Nat.lt_of_lt_of_le hk hc.size, fun j hj => ?_⟩
  obtain ⟨A', n', c', h1, h2⟩ := hcell j hj
  exact ⟨A', n', c', (World.cell?_of_block (w := w) (a := ⟨k, off + j, none⟩) (hc.block k hk (.inr (by omega)))).trans h1, h2.chgF (hf.2.2 j k off A' n' c' hj rfl h1) hc hb⟩⟩⟩
theorem FreshD.chgF (hf : FreshD w lo A n c P m d) (h : RdD w w.heap.size A n c xs P m d yss) (hc : Chg a b w w') (hb : b ≤ lo) : FreshD w' lo A n c P m d :=
 ⟨hf.1, hf.2.1, fun k g off A' n' c' hk hP hcl q hq => by
  obtain ⟨k', off', e, hk', hcell⟩ := h.2.2.2.2 (by omega)
  rw [hP] at e
  cases e
  have hl := hf.2.1 g (by rw [hP]; rfl)
  have e2 := World.cell?_of_block (w := w) (a := ⟨g, off + k, none⟩) (hc.block g hk' (.inr (by omega)))
  exact hf.2.2 k g off A' n' c' hk hP (e2.symm.trans hcl) q hq⟩
theorem FreshD.upF (hf : FreshD w lo A n c P m d) (h : RdD w w.heap.size A n c xs P m d yss) (hb : Below w.heap.size w w') : FreshD w' lo A n c P m d :=
 ⟨hf.1, hf.2.1, fun k g off A' n' c' hk hP hcl q hq => by
  obtain ⟨k', off', e, hk', hcell⟩ := h.2.2.2.2 (by omega)
  rw [hP] at e
  cases e
  exact hf.2.2 k g off A' n' c' hk hP ((hb.cell (p := ⟨g, off + k, none⟩) hk').symm.trans hcl) q hq⟩
end
theorem Ty.set_ {w : World} {G j : Nat} (h : Ty w G) (v : Value) : Ty (w.setCell ⟨G, j, none⟩ v) G := by
 obtain ⟨cur, fr, h⟩ := h
 have := h
 unfold Ty World.setCell
 simp only [Array.getElem?_modify, if_pos, h]
 exact ⟨_, _, rfl⟩
theorem RdR.setP {w : World} {B n c : Nat} {A : Option Addr} {xss : List (List Int)} (h : RdR w B A n c xss) {p : Addr} {A' : Option Addr} {n' c' : Nat} (hp : w.cell? p = some (.slice A' n' c')) (hb : ∀ q, (Value.slice A n c).ownBlock = some q → q ≠ p.block) (v : Value) : RdR (w.setCell p v) B A n c xss := h.setB hp hb v
theorem FreshD.setP {w : World} {lo n c m d : Nat} {A P : Option Addr} (h : FreshD w lo A n c P m d) {p : Addr} (hb : ∀ q, (Value.slice P m d).ownBlock = some q → q ≠ p.block) (v : Value) : FreshD (w.setCell p v) lo A n c P m d :=
 ⟨h.1, h.2.1, fun k b off A' n' c' hk hP hcl q hq => by
  subst hP
  rw [World.cell?_setCell_other _ _ _ _ (by intro e'; exact hb b rfl (by rw [e']))] at hcl
  exact h.2.2 k b off A' n' c' hk rfl hcl q hq⟩
structure KSt (w wr : World) (lo g q G : Nat) (A : Option Addr) (n c : Nat) (xs : List Int) (P : Option Addr) (m d : Nat) (yss : List (List Int)) : Prop where
 two : Two wr G (.slice A n c) (.slice P m d)
 rd : RdD wr wr.heap.size A n c xs P m d yss
 fresh : FreshD wr (w.heap.size + 1) A n c P m d
 ne : ∀ k, (Value.slice P m d).ownBlock = some k → k ≠ G
 own : OwnRR wr (w.heap.size + 1) (.slice P m d) yss
 rdr : Rdr wr lo g q
 chg : Chg g (g + 1) w wr
 res : Two wr w.heap.size (.slice none 0 0) (.slice none 0 0)
 ty : Ty wr G
 now : OwnIn wr (w.heap.size + 1) wr.heap.size A n c xs
 hG : w.heap.size < G
 hg : g < w.heap.size
section
variable {w wr w' : World} {lo g q q' G n c m d : Nat} {A P : Option Addr} {xs : List Int} {yss : List (List Int)}
theorem KSt.pick (h : KSt w wr lo g q G A n c xs P m d yss) (hr : Rdr w' lo g q') (hc : Chg g (g + 1) wr w') : KSt w w' lo g q' G A n c xs P m d yss := by
 have h1 := h.hG
 have h2 := h.hg
 exact ⟨h.two.chg hc (.inr (by omega)), h.rd.chgF h.fresh hc (by omega), h.fresh.chgF h.rd hc (by omega), h.ne, h.own.chg hc (by omega), hr, h.chg.chg_ hc (.inr ⟨Nat.le_refl _, Nat.le_refl _⟩), h.res.chg hc (.inr (by omega)), h.ty.of (hc.block G h.two.1 (.inr (by omega))), (h.now.chg hc (.inr (by omega))).wide (Nat.le_refl _) hc.size, h1, h2⟩
theorem KSt.up (h : KSt w wr lo g q G A n c xs P m d yss) (hb : Below wr.heap.size wr w') : KSt w w' lo g q G A n c xs P m d yss :=
 ⟨h.two.up hb, ⟨h.rd.1.up hb, h.rd.2.up hb⟩, h.fresh.upF h.rd hb, h.ne, h.own.up hb, h.rdr.up hb, h.chg.up_ hb, h.res.up hb, h.ty.up hb, (h.now.up hb).wide (Nat.le_refl _) hb.size, h.hG, h.hg⟩
theorem KSt.dr (h : KSt w wr lo g q G A n c xs P m d yss) : KSt w wr.drew lo g q G A n c xs P m d yss :=
 ⟨h.two.dn 1, ⟨h.rd.1.dn 1, h.rd.2.dn 1⟩, h.fresh, h.ne, h.own.dn 1, h.rdr.dn 1, h.chg.drewN 1, h.res.dn 1, h.ty, h.now.dn 1, h.hG, h.hg⟩
end
def DeskDrawn (w : World) (lo g p : Nat) (e : Ending) (w' : World) : Prop :=
 ∃ A n c xs P m d yss, e = .returned (.agg #[.slice A n c, .slice P m d]) ∧ RdD w' w'.heap.size A n c xs P m d yss ∧ FreshD w' (w.heap.size + 1) A n c P m d ∧ n ≤ 7 ∧ Rdr w' lo g (p + 1000) ∧ Chg g (g + 1) w w'
def CutK (wr wx : World) (Q1 : Nat) (lo g q : Nat) (s8 s9 : Value) : Prop :=
 ∃ g8 A n c xs P m d yss r3, s8 = .pointer (some ⟨g8, 0, none⟩) ∧ s9 = .bool r3 ∧ Two wx g8 (.slice A n c) (.slice P m d) ∧ RdD wx wx.heap.size A n c xs P m d yss ∧ FreshD wx wr.heap.size A n c P m d ∧
  OwnRR wx wr.heap.size (.slice P m d) yss ∧ OwnIn wx wr.heap.size wx.heap.size A n c xs ∧ xs.length ≤ 7 ∧ yss.length ≤ Q1 ∧ Rdr wx lo g q ∧ Chg g (g + 1) wr wx
end
section
open Go.RowKit
theorem doX_len (xs : List Int) (yss : List (List Int)) (kd a b : Int) (s : ByteArray) : (doX xs yss kd a b s).2.1.length ≤ yss.length + 1 := by
 rcases hok : deskOkB xs yss with _ | _
 · rw [do_no hok]; simp
 rcases hb : backB yss kd a b s with _ | _
 · rcases hs : stayB xs kd a b s with _ | _
   · rw [do_go hok hb hs]
     show (pastX xs yss).length ≤ _
     unfold pastX
     split
     · simp
     · rw [List.length_drop, List.length_append]; simp
   · rw [do_stay hok hb hs]; exact Nat.le_succ _
 · rw [do_back hok hb]
   show (yss.take _).length ≤ _
   rw [List.length_take]; omega
theorem doX_seven (xs : List Int) (yss : List (List Int)) (kd a b : Int) (s : ByteArray) : (doX xs yss kd a b s).1.length ≤ 7 := by
 rcases hok : deskOkB xs yss with _ | _
 · rw [do_no hok]; simp
 · exact (desk_fit (doX_desk kd a b s hok)).2.1
section
variable {wr w6 : World} {lo g q Q1 n c m d g8 B : Nat} {A P : Option Addr} {xs : List Int} {yss : List (List Int)} {r3 : Bool}
theorem cutK_last (hc : Chg g (g + 1) wr w6) (hr : Rdr w6 lo g q) (h : RdD w6 w6.heap.size A n c xs P m d yss) (hf : FreshD w6 B A n c P m d) (ho : OwnRR w6 B (.slice P m d) yss) (hn : OwnIn w6 B w6.heap.size A n c xs) (hB : wr.heap.size ≤ B) (hx : xs.length ≤ 7) (hy : yss.length ≤ Q1) :
    CutK wr (w6.alloc (.cells #[.slice A n c, .slice P m d] 26)) Q1 lo g q (.pointer (some ⟨w6.heap.size, 0, none⟩)) (.bool r3) :=
 ⟨_, A, n, c, xs, P, m, d, yss, r3, rfl, rfl, Two.made w6 _ _ _, h.up (below_new _ _), (hf.upF h (below_new _ _)).more hB, (ho.up (below_new _ _)).moreB hB, (hn.up (below_new _ _)).wide hB (below_new _ _).size, hx, hy, hr.al _, hc.allocNew _⟩
theorem cutK_early (hc : Chg g (g + 1) wr w6) (hr : Rdr w6 lo g q) (h : RdD w6 w6.heap.size A n c xs P m d yss) (hf : FreshD w6 B A n c P m d) (ho : OwnRR w6 B (.slice P m d) yss) (hn : OwnIn w6 B w6.heap.size A n c xs) (hB : g8 + 1 ≤ B) (hg8 : wr.heap.size ≤ g8) (hg : g < wr.heap.size) (hz : Two w6 g8 (.slice none 0 0) (.slice none 0 0)) (hx : xs.length ≤ 7) (hy : yss.length ≤ Q1) :
    CutK wr ((w6.setCell ⟨g8, 0, none⟩ (.slice A n c)).setCell ⟨g8, 1, none⟩ (.slice P m d)) Q1 lo g q (.pointer (some ⟨g8, 0, none⟩)) (.bool r3) := by
 have hch : Chg g8 (g8 + 1) w6 ((w6.setCell ⟨g8, 0, none⟩ (.slice A n c)).setCell ⟨g8, 1, none⟩ (.slice P m d)) :=
  ((Chg.refl _ _ w6).setCell (p := ⟨g8, 0, none⟩) (Nat.le_refl _) (Nat.lt_succ_self _) _).setCell (p := ⟨g8, 1, none⟩) (Nat.le_refl _) (Nat.lt_succ_self _) _
 have hlo := hr.lo
 exact ⟨g8, A, n, c, xs, P, m, d, yss, r3, rfl, rfl, (hz.set0 _).set1 _, h.chgF hf hch hB, (hf.chgF h hch hB).more (by omega), (ho.chg hch hB).moreB (by omega), (hn.chg hch (.inr hB)).wide (by omega) hch.size, hx, hy, hr.chg hch (by omega) (.inl (by omega)), (hc.setNew (p := ⟨g8, 0, none⟩) hg8 _).setNew (p := ⟨g8, 1, none⟩) hg8 _⟩
end
def KEx (w wr : World) (lo g p G k : Nat) : Prop :=
 ∃ A n c xs P m d yss, KSt w wr lo g (p + 40 + 100 * (5 - k)) G A n c xs P m d yss ∧ xs.length ≤ 7 ∧ yss.length ≤ 4 - k
theorem desk_end {w wr : World} {lo g p : Nat} {A P : Option Addr} {n c m d : Nat} {xs : List Int} {yss : List (List Int)} (hrd : RdD wr wr.heap.size A n c xs P m d yss) (hf : FreshD wr (w.heap.size + 1) A n c P m d) (hr : Rdr wr lo g (p + 1000)) (hc : Chg g (g + 1) w wr) (hres : Two wr w.heap.size (.slice none 0 0) (.slice none 0 0)) (hg : g < w.heap.size) (hn : n ≤ 7) :
    DeskDrawn w lo g p (.returned (.agg #[.slice A n c, .slice P m d])) ((wr.setCell ⟨w.heap.size, 0, none⟩ (.slice A n c)).setCell ⟨w.heap.size, 1, none⟩ (.slice P m d)) := by
 have hch : Chg w.heap.size (w.heap.size + 1) wr ((wr.setCell ⟨w.heap.size, 0, none⟩ (.slice A n c)).setCell ⟨w.heap.size, 1, none⟩ (.slice P m d)) :=
  ((Chg.refl _ _ wr).setCell (p := ⟨w.heap.size, 0, none⟩) (Nat.le_refl _) (Nat.lt_succ_self _) _).setCell (p := ⟨w.heap.size, 1, none⟩) (Nat.le_refl _) (Nat.lt_succ_self _) _
 have hlo := hr.lo
 exact ⟨A, n, c, xs, P, m, d, yss, rfl, hrd.chgF hf hch (Nat.le_refl _), hf.chgF hrd hch (Nat.le_refl _), hn, hr.chg hch (by omega) (.inl hg), (hc.setNew (p := ⟨w.heap.size, 0, none⟩) (Nat.le_refl _) _).setNew (p := ⟨w.heap.size, 1, none⟩) (Nat.le_refl _) _⟩
theorem desk_one {w wr : World} {lo g q p G : Nat} {A P : Option Addr} {n c m d : Nat} {xs : List Int} {yss : List (List Int)} (st : KSt w wr lo g q G A n c xs P m d yss) (hq : q ≤ p + 1000) :
    let X := (((wr.setCell ⟨G, 0, none⟩ (.slice (some ⟨wr.heap.size, 0, none⟩) 1 1)).setCell ⟨w.heap.size, 0, none⟩ (.slice (some ⟨wr.heap.size, 0, none⟩) 1 1)).setCell ⟨w.heap.size, 1, none⟩ (.slice P m d)).alloc (.cells #[.int .i64 1] 3)
    DeskDrawn w lo g p (.returned (.agg #[.slice (some ⟨wr.heap.size, 0, none⟩) 1 1, .slice P m d])) X ∧ Two X w.heap.size (.slice (some ⟨wr.heap.size, 0, none⟩) 1 1) (.slice P m d) := by
 have hGw := st.two.1
 have h1 := st.hG
 have h2 := st.hg
 have hlo := st.rdr.lo
 have e0 : (wr.setCell ⟨G, 0, none⟩ (.slice (some ⟨wr.heap.size, 0, none⟩) 1 1)).heap.size = wr.heap.size := by simp
 have hcG : Chg G (G + 1) wr (wr.setCell ⟨G, 0, none⟩ (.slice (some ⟨wr.heap.size, 0, none⟩) 1 1)) := (Chg.refl _ _ wr).setCell (p := ⟨G, 0, none⟩) (Nat.le_refl _) (Nat.lt_succ_self _) _
 have hR1 := st.rd.2.setP st.two.2.1 st.ne (.slice (some ⟨wr.heap.size, 0, none⟩) 1 1)
 have hF1 := st.fresh.setP (p := ⟨G, 0, none⟩) st.ne (.slice (some ⟨wr.heap.size, 0, none⟩) 1 1)
 have hF1' : FreshD (wr.setCell ⟨G, 0, none⟩ (.slice (some ⟨wr.heap.size, 0, none⟩) 1 1)) (w.heap.size + 1) none 0 0 P m d := ⟨(fun q hq => by cases hq), hF1.2⟩
 have hD1 : RdD (wr.setCell ⟨G, 0, none⟩ (.slice (some ⟨wr.heap.size, 0, none⟩) 1 1)) (wr.setCell ⟨G, 0, none⟩ (.slice (some ⟨wr.heap.size, 0, none⟩) 1 1)).heap.size none 0 0 [] P m d yss := ⟨Rd.nil_ _ _, by rw [e0]; exact hR1⟩
 have hr1 := st.rdr.chg hcG (by omega) (.inl (by omega))
 have hc1 := st.chg.setNew (p := ⟨G, 0, none⟩) (by show w.heap.size ≤ G; omega) (.slice (some ⟨wr.heap.size, 0, none⟩) 1 1)
 have hres1 := st.res.chg hcG (.inl h1)
 generalize hs : wr.heap.size = sz at *
 generalize wr.setCell ⟨G, 0, none⟩ (.slice (some ⟨sz, 0, none⟩) 1 1) = wa at *
 have hch : Chg w.heap.size (w.heap.size + 1) wa ((wa.setCell ⟨w.heap.size, 0, none⟩ (.slice (some ⟨sz, 0, none⟩) 1 1)).setCell ⟨w.heap.size, 1, none⟩ (.slice P m d)) :=
  ((Chg.refl _ _ wa).setCell (p := ⟨w.heap.size, 0, none⟩) (Nat.le_refl _) (Nat.lt_succ_self _) _).setCell (p := ⟨w.heap.size, 1, none⟩) (Nat.le_refl _) (Nat.lt_succ_self _) _
 have hD2 := hD1.chgF hF1' hch (Nat.le_refl _)
 have hF2 := hF1'.chgF hD1 hch (Nat.le_refl _)
 have hr2 := hr1.chg hch (by omega) (.inl h2)
 have hc2 := (hc1.setNew (p := ⟨w.heap.size, 0, none⟩) (Nat.le_refl _) (.slice (some ⟨sz, 0, none⟩) 1 1)).setNew (p := ⟨w.heap.size, 1, none⟩) (Nat.le_refl _) (.slice P m d)
 have hres2 := (hres1.set0 (.slice (some ⟨sz, 0, none⟩) 1 1)).set1 (.slice P m d)
 have e2 : ((wa.setCell ⟨w.heap.size, 0, none⟩ (.slice (some ⟨sz, 0, none⟩) 1 1)).setCell ⟨w.heap.size, 1, none⟩ (.slice P m d)).heap.size = sz := by simp [e0]
 generalize (wa.setCell ⟨w.heap.size, 0, none⟩ (.slice (some ⟨sz, 0, none⟩) 1 1)).setCell ⟨w.heap.size, 1, none⟩ (.slice P m d) = wb at *
 have hbb := below_new wb (.cells #[.int .i64 1] 3)
 have hcell : (wb.alloc (.cells #[.int .i64 1] 3)).cell? ⟨sz, 0, none⟩ = some (.int .i64 1) := by rw [← e2]; exact (World.cell?_alloc_at _ _ _ _ rfl).trans rfl
 have hrow : Rd (wb.alloc (.cells #[.int .i64 1] 3)) (wb.alloc (.cells #[.int .i64 1] 3)).heap.size (some ⟨sz, 0, none⟩) 1 1 [1] :=
  ⟨rfl, Nat.le_refl _, by unfold maxLen; omega, fun _ => ⟨sz, 0, rfl, by rw [World.size_alloc, e2]; omega, fun k hk => by
   obtain rfl : k = 0 := by omega
   exact hcell⟩⟩
 exact ⟨⟨_, 1, 1, [1], P, m, d, yss, rfl, ⟨hrow, (hD2.2.up hbb)⟩, ⟨fun q hq => by have e : sz = q := Option.some.inj hq; omega, (hF2.upF hD2 hbb).2⟩, by omega, (hr2.more hq).al _, hc2.allocNew _⟩, hres2.up hbb⟩
set_option maxRecDepth 100000 in
set_option maxHeartbeats 6400000 in
theorem desk_c (g lo p N : Nat) (w : World) (h : Rdr w lo g p) (hp : p ≤ 10000) (hN : N ≤ 1000) :
    Calls Tryz.prog 39 #[.pointer (some ⟨g, 0, none⟩), .int .i64 (N : Int)] w (DeskDrawn w lo g p) := by
 have hgl := h.lt
 have hlog := h.lo
 have hR1 := Two.made w 26 (.slice none 0 0) (.slice none 0 0)
 have hr1 := h.al (.cells #[.slice none 0 0, .slice none 0 0] 26)
 have hc1 : Chg g (g + 1) w (w.alloc (.cells #[.slice none 0 0, .slice none 0 0] 26)) := (Chg.refl _ _ _).allocNew _
 have hz1 : w.heap.size + 1 ≤ (w.alloc (.cells #[.slice none 0 0, .slice none 0 0] 26)).heap.size := by simp
 go_enter Tryz.func39, Tryz.ntmps39
 go_wp2_with fail
 generalize w.alloc (.cells #[.slice none 0 0, .slice none 0 0] 26) = w1 at *
 refine (map_c g lo p 7 0 _ hr1 (by omega) (by omega) (by omega) (by omega)).mono ?_
 rintro e w2 ⟨A2, n2, c2, xs2, rfl, hO2, _, hr2, hc2⟩
 have hR2 := hR1.chg hc2 (.inr hgl)
 have hC2 := hc1.chg_ hc2 (.inr ⟨Nat.le_refl _, Nat.le_refl _⟩)
 have hz2 := hc2.size
 clear hR1 hr1 hc1 hc2
 go_wp2_with fail
 refine (sDeskNew_c _ _ _ xs2 _ hO2.rd).mono ?_
 rintro e w3 hnew
 obtain ⟨A3, n3, c3, rfl, O3, hb3⟩ := hnew.get
 have hl3 := O3.len
 have hs3 := newR_len xs2
 generalize mapOk xs2 = mb at *
 generalize newR xs2 = xs at *
 clear hnew
 have hz3 := hb3.size
 have hbA := below_new w3 (.cells #[.slice A3 n3 c3, .slice none 0 0] 26)
 have st4 : KSt w (w3.alloc (.cells #[.slice A3 n3 c3, .slice none 0 0] 26)) lo g (p + 30) w3.heap.size A3 n3 c3 xs none 0 0 [] :=
  ⟨Two.made w3 _ _ _, ⟨(O3.up hbA).rd, RdR.nil_ _ _⟩, ⟨fun q hq => by have := (O3.lt q hq).1; omega, (fun q hq => by cases hq), fun k _ _ _ _ _ hk => absurd hk (Nat.not_lt_zero _)⟩, (fun q hq => by cases hq), OwnRR.nil_ _ _, (hr2.up hb3).al _, (hC2.up_ hb3).allocNew _, (hR2.up hb3).up hbA, Ty.made w3 _, ((O3.up hbA).wide (by omega) (by have := hbA.size; omega)), by omega, hgl⟩
 clear hR2 hr2 hC2 hbA hO2 O3 hb3
 go_wp2_with fail
 generalize w3.alloc (.cells #[.slice A3 n3 c3, .slice none 0 0] 26) = w4 at *
 generalize w3.heap.size = G at *
 refine (pick_c g lo (p + 30) 5 _ st4.rdr (by omega) (by omega)).mono ?_
 rintro e w5 ⟨x5, rfl, hx5, hr5, hc5⟩
 have hx4 := hx5 (by omega)
 have hx44 : x5 ≤ 4 := by omega
 have hex : KEx w w5 lo g p G x5 := by
  have st5 := st4.pick hr5 hc5
  exact ⟨A3, n3, c3, xs, none, 0, 0, [], ⟨st5.two, st5.rd, st5.fresh, st5.ne, st5.own, st5.rdr.more (by omega), st5.chg, st5.res, st5.ty, st5.now, st5.hG, st5.hg⟩, hs3, Nat.zero_le _⟩
 clear st4 hr5 hc5 hx5
 go_wp2_with fail
 go_loopw [7] (fun t wr => ∃ k : Nat, k ≤ 4 ∧ t = .int .i64 k ∧ KEx w wr lo g p G k) (fun t _ => (intOf t).toNat)
 case atStart => exact ⟨x5, hx44, rfl, hex⟩
 case round =>
  clear hex hs3 hl3
  obtain ⟨k, hk, rfl, A, n, c, xs, P, m, d, yss, st, hx7, hy4⟩ := hrel
  by_cases hlt : 0 < k
  · have hn7 : n ≤ 7 := by have := st.rd.1.len; omega
    have hGw := st.two.1
    have hGg := st.hG
    have hgw := st.rdr.lt
    go_upto_region 5 with fail
    go_cut [8, 9] from 18 to 32 (fun s8 s9 wx => CutK wr wx (4 - (k - 1)) lo g (p + 40 + 100 * (5 - k) + 100) s8 s9)
    case first =>
     have K0 := st.dr
     have hzd : wr.heap.size ≤ wr.drew.heap.size := Nat.le_refl _
     have hGd : G < wr.drew.heap.size := hGw
     have Y0 := Lib.hid (show World.cell? wr.drew ⟨G, 0, none⟩ = some (.slice A n c) ∧ World.cell? wr.drew ⟨G, 1, none⟩ = some (.slice P m d) from ⟨K0.two.2.1, K0.two.2.2.1⟩)
     have KA0 : Hid (∀ o, World.cell? (wr.drew.alloc o) ⟨G, 0, none⟩ = some (.slice A n c) ∧ World.cell? (wr.drew.alloc o) ⟨G, 1, none⟩ = some (.slice P m d)) := Lib.hid (fun o => ⟨((below_new wr.drew o).cell (p := ⟨G, 0, none⟩) hGd).trans K0.two.2.1, ((below_new wr.drew o).cell (p := ⟨G, 1, none⟩) hGd).trans K0.two.2.2.1⟩)
     go_region_held3 (fun w' => World.cell? w' ⟨G, 0, none⟩ = some (.slice A n c) ∧ World.cell? w' ⟨G, 1, none⟩ = some (.slice P m d))
      (first
       | exact Y0.out
       | exact KA0.out _
       | exact Y5.out
       | exact KA5.out _
       | exact Y6.out
       | exact KA6.out _
       | exact KF.out _ _ _ (by omega))
      (first
       | (go_at_call 96; refine (deed_c g lo (p + 40 + 100 * (5 - k)) n c A xs _ (by first | exact K0.rdr | exact K0.rdr.al _) (by first | exact K0.rd.1 | exact K0.rd.1.up (below_new _ _)) (by omega) hn7).mono ?_; rintro e w5 ⟨kd, a, b, s, rfl, hs7, hr5, hx5⟩; have hc5 : Chg g (g + 1) wr.drew w5 := (by first | exact hx5 | exact ((Chg.refl g (g + 1) wr.drew).allocNew _).chg_ hx5 (.inr ⟨Nat.le_refl _, Nat.le_refl _⟩)); (try have tz5 : Two w5 wr.heap.size (.slice none 0 0) (.slice none 0 0) := (Two.made wr.drew _ _ _).chg hx5 (.inr (by omega))); (try have hlz5 := tz5.1); have K5 := K0.pick hr5 hc5; have hz5 := hc5.size; have Y5 := Lib.hid (show World.cell? w5 ⟨G, 0, none⟩ = some (.slice A n c) ∧ World.cell? w5 ⟨G, 1, none⟩ = some (.slice P m d) from ⟨K5.two.2.1, K5.two.2.2.1⟩); have KA5 : Hid (∀ o, World.cell? (w5.alloc o) ⟨G, 0, none⟩ = some (.slice A n c) ∧ World.cell? (w5.alloc o) ⟨G, 1, none⟩ = some (.slice P m d)) := Lib.hid (fun o => ⟨((below_new w5 o).cell (p := ⟨G, 0, none⟩) K5.two.1).trans K5.two.2.1, ((below_new w5 o).cell (p := ⟨G, 1, none⟩) K5.two.1).trans K5.two.2.2.1⟩); have KD := fun W hW => sDeskDo_c A P n c m d xs yss kd a b s W hW (by omega); have hdl := doX_len xs yss kd a b s; have hd7 := doX_seven xs yss kd a b s; generalize doX xs yss kd a b s = R at KD hdl hd7; obtain ⟨R1, R2, R3⟩ := R; (try simp only at hdl hd7); clear hx5)
       | (go_at_call 49; refine (KD _ (by first | exact K5.rd | exact ⟨K5.rd.1.up (below_new _ _), K5.rd.2.up (below_new _ _)⟩)).mono ?_; rintro e w6 ⟨A6, n6, c6, P6, m6, d6, rfl, h6, hx6, hf6, ho6, hn6⟩; have hb6 : Below w5.heap.size w5 w6 := (by first | exact hx6 | exact below_of_alloc hx6); have ho6q := ho6 (by show R2.length < 8; omega); have hfz : FreshD w6 w5.heap.size A6 n6 c6 P6 m6 d6 := (by first | exact hf6 | exact hf6.more (below_new w5 _).size); have hoz : OwnRR w6 w5.heap.size (.slice P6 m6 d6) R2 := (by first | exact ho6q | exact ho6q.moreB (below_new w5 _).size); have hnz : OwnIn w6 w5.heap.size w6.heap.size A6 n6 c6 R1 := (by first | exact hn6 | exact hn6.wide (below_new w5 _).size (Nat.le_refl _)); (try have hne6 : OwnIn w6 (w5.heap.size + 1) w6.heap.size A6 n6 c6 R1 := hn6.wide (by simp) (Nat.le_refl _)); (try have hfe : FreshD w6 (w5.heap.size + 1) A6 n6 c6 P6 m6 d6 := hf6.more (by simp)); (try have hoe : OwnRR w6 (w5.heap.size + 1) (.slice P6 m6 d6) R2 := ho6q.moreB (by simp)); (try have tz6 : Two w6 w5.heap.size (.slice none 0 0) (.slice none 0 0) := (Two.made w5 _ _ _).up hx6); (try have ty6 := tz5.up hx6); have K6 := K5.up hb6; have hz6 := hb6.size; have Y6 := Lib.hid (show World.cell? w6 ⟨G, 0, none⟩ = some (.slice A n c) ∧ World.cell? w6 ⟨G, 1, none⟩ = some (.slice P m d) from ⟨K6.two.2.1, K6.two.2.2.1⟩); have KA6 : Hid (∀ o, World.cell? (w6.alloc o) ⟨G, 0, none⟩ = some (.slice A n c) ∧ World.cell? (w6.alloc o) ⟨G, 1, none⟩ = some (.slice P m d)) := Lib.hid (fun o => ⟨((below_new w6 o).cell (p := ⟨G, 0, none⟩) K6.two.1).trans K6.two.2.1, ((below_new w6 o).cell (p := ⟨G, 1, none⟩) K6.two.1).trans K6.two.2.2.1⟩); have KF : Hid (∀ g u v, wr.heap.size ≤ g → World.cell? ((w6.setCell ⟨g, 0, none⟩ u).setCell ⟨g, 1, none⟩ v) ⟨G, 0, none⟩ = some (.slice A n c) ∧ World.cell? ((w6.setCell ⟨g, 0, none⟩ u).setCell ⟨g, 1, none⟩ v) ⟨G, 1, none⟩ = some (.slice P m d)) := Lib.hid (fun g u v hg => ⟨farc (by omega) K6.two.2.1, farc (by omega) K6.two.2.2.1⟩); have hcw : Chg g (g + 1) wr w6 := (((Chg.refl g (g + 1) wr).drewN 1).chg_ hc5 (.inr ⟨Nat.le_refl _, Nat.le_refl _⟩)).up_ hb6; (try obtain ⟨_, z0, z1q, z2, z3⟩ := id tz6); (try obtain ⟨_, z0, z1q, z2, z3⟩ := id ty6); clear hx6 hf6 ho6 hn6))
     all_goals
      go_wp2_with fail
      go_meet
      first
       | with_reducible exact cutK_last hcw K6.rdr h6 hfz hoz hnz (by omega) (by omega) (by omega)
       | with_reducible exact cutK_early hcw K6.rdr h6 hfe hoe hne6 (Nat.le_refl _) (by omega) (by omega) tz6 (by omega) (by omega)
       | with_reducible exact cutK_early hcw K6.rdr h6 hfz hoz hnz (by omega) (Nat.le_refl _) (by omega) ty6 (by omega) (by omega)
    case rest =>
     obtain ⟨g8, A6, n6, c6, xs6, P6, m6, d6, yss6, r3, rfl, rfl, hT8, hD8, hF8, hO8, hN8, hx6, hy6, hr8, hc8⟩ := hcut
     have st8 := st.pick hr8 hc8
     obtain ⟨_, v0, v1, v2, v3⟩ := id st8.two
     obtain ⟨_, u0, u1, _, _⟩ := id hT8
     have hz8 := hc8.size
     have hk1 : ((k : Int) - 1) = ((k - 1 : Nat) : Int) := by omega
     have hkq : p + 40 + 100 * (5 - k) + 100 ≤ p + 40 + 100 * (5 - (k - 1)) := by omega
     clear st
     rcases r3 with _ | _
     · have HX : Hid (KEx w wc lo g p G (k - 1)) := Lib.hid ⟨A, n, c, xs, P, m, d, yss, ⟨st8.two, st8.rd, st8.fresh, st8.ne, st8.own, st8.rdr.more hkq, st8.chg, st8.res, st8.ty, st8.now, st8.hG, st8.hg⟩, hx7, by omega⟩
       clear st8 hT8 hD8 hF8 hO8 hN8 hr8 hc8
       go_wp2_with fail
       go_roundw
       case rel => exact ⟨k - 1, by omega, by go_num, HX.out⟩
       case measure => simp [intOf]; omega
     · have hch : Chg G (G + 1) wc ((wc.setCell ⟨G, 0, none⟩ (.slice A6 n6 c6)).setCell ⟨G, 1, none⟩ (.slice P6 m6 d6)) :=
        ((Chg.refl _ _ wc).setCell (p := ⟨G, 0, none⟩) (Nat.le_refl _) (Nat.lt_succ_self _) _).setCell (p := ⟨G, 1, none⟩) (Nat.le_refl _) (Nat.lt_succ_self _) _
       have hG1 : G + 1 ≤ wr.heap.size := hGw
       have HX : Hid (KEx w ((wc.setCell ⟨G, 0, none⟩ (.slice A6 n6 c6)).setCell ⟨G, 1, none⟩ (.slice P6 m6 d6)) lo g p G (k - 1)) := Lib.hid ⟨A6, n6, c6, xs6, P6, m6, d6, yss6,
        ⟨(st8.two.set0 _).set1 _, hD8.chgF hF8 hch hG1, (hF8.chgF hD8 hch hG1).more (by omega), fun q hq => by have := hF8.2.1 q hq; omega, (hO8.chg hch hG1).moreB (by omega), (hr8.more hkq).chg hch (by omega) (.inl (by omega)), (st8.chg.setNew (p := ⟨G, 0, none⟩) (by show w.heap.size ≤ G; omega) _).setNew (p := ⟨G, 1, none⟩) (by show w.heap.size ≤ G; omega) _, st8.res.chg hch (.inl hGg), (st8.ty.set_ _).set_ _, (hN8.chg hch (.inr hG1)).wide (by omega) hch.size, hGg, hgl⟩, hx6, hy6⟩
       clear st8 hT8 hD8 hF8 hO8 hN8 hr8 hc8 hch
       go_wp2_with fail
       go_roundw
       case rel => exact ⟨k - 1, by omega, by go_num, HX.out⟩
       case measure => simp [intOf]; omega
  · obtain rfl : k = 0 := by omega
    have hn7 : n ≤ 7 := by have := st.rd.1.len; omega
    go_wp2_with fail
    refine (odd_c g lo (p + 40 + 100 * (5 - 0)) N _ st.rdr (by omega) (by omega)).mono ?_
    rintro e w20 ⟨bo, rfl, hr20, hc20⟩
    have st20 := st.pick hr20 hc20
    clear st hr20 hc20
    rcases bo with _ | _
    · have hend := desk_end (p := p) st20.rd st20.fresh (st20.rdr.more (by omega)) st20.chg st20.res st20.hg hn7
      have hT := (st20.res.set0 (.slice A n c)).set1 (.slice P m d)
      obtain ⟨_, t0, t1, t2, t3⟩ := id st20.two
      obtain ⟨_, r0, r1, r2, r3⟩ := id st20.res
      have HE := Lib.hid hend
      have HT := Lib.hid hT
      clear hend hT st20
      go_wp2_with fail
      (try simp only [Exit.inBlock, Exit.then])
      refine bodyPost_ret (v := .agg #[.slice A n c, .slice P m d]) ?_ rfl HE.out
      exact results_two (p := 4) rfl _ _ w.heap.size _ _ _ rfl HT.out Tryz.underlying26 rfl desk_size
    · go_wp2_with fail
      refine (pick_c g lo (p + 40 + 100 * (5 - 0) + 1) 3 _ st20.rdr (by omega) (by omega)).mono ?_
      rintro e w22 ⟨x22, rfl, hx22, hr22, hc22⟩
      have st := st20.pick hr22 hc22
      have hx3 := hx22 (by omega)
      clear st20 hr22 hc22 hx22
      have hcase : x22 = 0 ∨ x22 = 1 ∨ x22 = 2 := by omega
      rcases hcase with rfl | rfl | rfl
      · obtain ⟨he1, he2⟩ := desk_one (p := p) st (by omega)
        obtain ⟨_, t0, t1, t2, t3⟩ := id st.two
        obtain ⟨_, r0, r1, r2, r3⟩ := id st.res
        have HE := Lib.hid he1
        have HT := Lib.hid he2
        clear he1 he2 st
        go_wp2_with fail
        (try simp only [Exit.inBlock, Exit.then])
        refine bodyPost_ret (v := .agg #[.slice (some ⟨w22.heap.size, 0, none⟩) 1 1, .slice P m d]) ?_ rfl HE.out
        exact results_two (p := 4) rfl _ _ w.heap.size _ _ _ rfl HT.out Tryz.underlying26 rfl desk_size
      · have hA0 := below_new w22 (.cells #[] 3)
        have st1 := st.up hA0
        have hY : OwnIn (w22.alloc (.cells #[] 3)) (w.heap.size + 1) (w22.alloc (.cells #[] 3)).heap.size (some ⟨w22.heap.size, 0, none⟩) 0 0 [] :=
         ⟨⟨rfl, OwnV.made w22 (w.heap.size + 1) #[] (by have := st.two.1; have := st.hG; omega) rfl⟩, fun k hk => by cases hk; simp⟩
        have hyl : yss.length ≤ 1000000000 := by omega
        have hneG : (Value.slice P m d).ownBlock ≠ some G := fun e => st.ne G e rfl
        have hneI := ne_outer (show (w22.alloc (.cells #[] 3)).ownsRow _ 23 1 (.slice P m d) _ _ from (Classical.choose_spec st1.own).1) st1.now
        have hGz := st1.two.1
        have hGs := st.hG
        obtain ⟨_, t0, t1, t2, t3⟩ := id st1.two
        obtain ⟨_, b0, b1, b2, b3⟩ := id st.two
        have hO1 := st1.own
        have hB1 : w.heap.size + 1 ≤ (w22.alloc (.cells #[] 3)).heap.size := by omega
        go_wp2_with (
         at_builtin; refine app_rg (w22.alloc (.cells #[] 3)) (some ⟨w22.heap.size, 0, none⟩) 0 0 rfl _ _ rfl (w.heap.size + 1) _ yss rfl hO1 (by rw [World.size_alloc]; rfl) [] hY hyl hB1 ?_; intro v6 w6 hO6 hg6
         have hbA5 := below_new (w22.alloc (.cells #[] 3)) (.cells #[.slice (some ⟨w22.heap.size, 0, none⟩) 0 0] 23)
         have stA := st1.up hbA5
         have hT6 := stA.two.grown hg6 hneG
         have hY6 : Ty w6 G := stA.ty.of (hg6.block G stA.two.1 (fun e => hneG e.symm))
         have hb6 : Below (w.heap.size + 1) _ w6 := (Below.refl (w.heap.size + 1) _).grown hg6 (by have := stA.two.1; omega) (fun k hk => hO1.lt6 k hk)
         have hN6 := stA.now.grown hg6 hneI
         have hr6 := stA.rdr.below hb6 (by omega)
         have hR6 := stA.res.below hb6 (by omega)
         have hc6 := stA.chg.then_ (hb6.mono (by omega))
         have hO6' := hO6.form
         obtain ⟨P6, d6, rfl, hro6⟩ := hO6'
         have hcp6 := hro6.cap
         have hmx6 := hro6.max
         unfold maxLen at hmx6
         have hl6 : (yss ++ [[]]).length = yss.length + 1 := by rw [List.length_append]; rfl
         have HL6 := Lib.hid hl6
         generalize (yss ++ [[]]).length = M6 at *
         have hcG : Chg G (G + 1) w6 (w6.setCell ⟨G, 1, none⟩ (.slice P6 M6 d6)) := (Chg.refl G (G + 1) w6).setCell (p := ⟨G, 1, none⟩) (Nat.le_refl _) (Nat.lt_succ_self _) _
         have hO7 := hO6.ty hY6 hcG
         have hN7 := hN6.ty hY6 hcG
         have hD7 : RdD (w6.setCell ⟨G, 1, none⟩ (.slice P6 M6 d6)) (w6.setCell ⟨G, 1, none⟩ (.slice P6 M6 d6)).heap.size A n c xs P6 M6 d6 (yss ++ [[]]) := ⟨hN7.rd, hO7.rdr⟩
         have hF7 : FreshD (w6.setCell ⟨G, 1, none⟩ (.slice P6 M6 d6)) (w.heap.size + 1) A n c P6 M6 d6 := hO7.fresh hN7 (Nat.le_refl _)
         have hlo := st.rdr.lo
         have hgw := st.hg
         have hend := desk_end (p := p) hD7 hF7 ((hr6.chg hcG (by omega) (.inl (by omega))).more (by omega)) (hc6.setNew (p := ⟨G, 1, none⟩) (by show w.heap.size ≤ G; omega) (.slice P6 M6 d6)) (hR6.chg hcG (.inl hGs)) hgw hn7
         have hTe := ((hR6.chg hcG (.inl hGs)).set0 (.slice A n c)).set1 (.slice P6 M6 d6)
         have HE := Lib.hid hend
         have HT := Lib.hid hTe
         obtain ⟨_, t0, t1, t2, t3⟩ := id hT6
         obtain ⟨_, r0, r1, r2, r3⟩ := id hR6
         clear hend hTe hD7 hF7 hO7 hN7 hcG hO6 hro6 hN6 hT6 hR6 hc6 hr6 hb6 stA st1 st hg6 hY6 hY hO1 hl6 hneG hneI hbA5 hA0)
        (try simp only [Exit.inBlock, Exit.then])
        refine bodyPost_ret (v := .agg #[.slice A n c, .slice P6 M6 d6]) ?_ rfl HE.out
        exact results_two (p := 4) rfl _ _ w.heap.size _ _ _ rfl HT.out Tryz.underlying26 rfl desk_size
      · have hend := desk_end (w := w) (p := p) (A := none) (n := 0) (c := 0) (xs := []) (P := none) (m := 0) (d := 0) (yss := []) (wr := w22) ⟨Rd.nil_ _ _, RdR.nil_ _ _⟩ (FreshD.nil_ _ _) (st.rdr.more (by omega)) st.chg st.res st.hg (by omega)
        have hT := (st.res.set0 (.slice none 0 0)).set1 (.slice none 0 0)
        obtain ⟨_, r0, r1, r2, r3⟩ := id st.res
        have HE := Lib.hid hend
        have HT := Lib.hid hT
        clear hend hT st
        go_wp2_with fail
        (try simp only [Exit.inBlock, Exit.then])
        refine bodyPost_ret (v := .agg #[.slice none 0 0, .slice none 0 0]) ?_ rfl HE.out
        exact results_two (p := 4) rfl _ _ w.heap.size _ _ _ rfl HT.out Tryz.underlying26 rfl desk_size
end
section
open Go.RowKit
end
section
open Go.RowKit
def OwnW (w : World) (B : Nat) (v : Value) (ds : List Dd) : Prop := w.ownsRow B 55 4 v ds.length (flatD ds)
theorem OwnW.slice_ {w : World} {B : Nat} {v : Value} {ds : List Dd} (h : OwnW w B v ds) : ∃ A c, v = .slice A ds.length c ∧ OwnE w B w.heap.size A ds.length c ds := by
 rcases h.2 with ⟨rfl, h0⟩ | ⟨g, cap, cur, rfl, r⟩
 · exact ⟨none, 0, by rw [h0], rfl, ⟨h.1, .inl ⟨by rw [h0], h0⟩⟩, fun k hk => by cases hk⟩
 · refine ⟨_, _, rfl, rfl, ⟨h.1, .inr ⟨g, cap, cur, rfl, r⟩⟩, fun k hk => ?_⟩
   cases hk
   exact (Array.getElem?_eq_some_iff.1 r.2.1).1
end
section
open Go.RowKit
def OpenB (B : Nat) (w : World) (e : Ending) (w' : World) : Prop := e = .returned (.pointer (some ⟨w.heap.size, 0, none⟩)) ∧ Rdr w' B w.heap.size 0 ∧ Below w.heap.size w w'
theorem openB_c (B : Nat) (A : Option Addr) (n c : Nat) (bs : List Nat) (w : World) (h : RdB w B A n c bs) (hB : B ≤ w.heap.size) :
    Calls Tryz.prog 38 #[.slice A n c] w (OpenB B w) := by
 have hc := h.cap
 have hm := h.max
 unfold maxLen at hm
 by_cases h2 : 2000 < n
 · have h' := h.cut (m := 2000) (by omega)
   go_enter Tryz.func38, Tryz.ntmps38
   go_wp2
   go_ret
   exact ⟨rfl, ⟨A, 2000, c, bs.take 2000, 0, Nat.le_refl _, hB, heap_alloc_new _ _, h'.below ((Below.refl _ _).alloc hB _), Nat.le_refl _⟩, (Below.refl _ _).alloc (Nat.le_refl _) _⟩
 · go_enter Tryz.func38, Tryz.ntmps38
   go_wp2
   go_ret
   exact ⟨rfl, ⟨A, n, c, bs, 0, Nat.le_refl _, hB, heap_alloc_new _ _, h.below ((Below.refl _ _).alloc hB _), by omega⟩, (Below.refl _ _).alloc (Nat.le_refl _) _⟩
end
section
open Go.RowKit
end
section
open Go.RowKit
theorem RdD.up_ {w w' : World} {A P : Option Addr} {n c m d : Nat} {xs : List Int} {yss : List (List Int)} (h : RdD w w.heap.size A n c xs P m d yss) (hb : Below w.heap.size w w') : RdD w' w'.heap.size A n c xs P m d yss := ⟨h.1.up hb, h.2.up hb⟩
section
variable {wj wx : World} {A P : Option Addr} {n c m d g lo hi : Nat} {r1 : List Int} {r2 : List (List Int)} {r3 : Nat}
end
end
end Go.Proofs.YtoinlkdmfclnbaaGreatDoor
