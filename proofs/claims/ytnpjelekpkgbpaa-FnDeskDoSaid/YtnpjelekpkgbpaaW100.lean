/- Walk: l20Deed of the reference. -/
import Derived.Test.YtnpjelekpkgbpaaV9
import Derived.Test.YtnpjelekpkgbpaaV4
import Derived.Test.YtnpjelekpkgbpaaW90
namespace Go.Proofs.Ytnpjelekpkgbpaa
set_option linter.unusedVariables false
open Go.RowKit

/-- A deed in memory that may be written. -/
def FourF (w : World) (g : Nat) (kd a b : Int) (s : ByteArray) : Prop :=
  Four w g kd a b s ∧ w.frozen? ⟨g, 0, none⟩ = false ∧ w.frozen? ⟨g, 1, none⟩ = false ∧ w.frozen? ⟨g, 2, none⟩ = false ∧ w.frozen? ⟨g, 3, none⟩ = false
section
variable {w w' : World} {g B lo hi p : Nat} {kd a b : Int} {s : ByteArray}
theorem FourF.made (w : World) (T : TypeId) (kd a b : Int) (s : ByteArray) : FourF (w.alloc (.cells #[.int .i64 kd, .int .i64 a, .int .i64 b, .string s] T)) w.heap.size kd a b s := by
  have e := heap_alloc_new w (.cells #[.int .i64 kd, .int .i64 a, .int .i64 b, .string s] T)
  exact ⟨Four.made w T kd a b s, by simp only [World.frozen?, e]; simp, by simp only [World.frozen?, e]; simp, by simp only [World.frozen?, e]; simp, by simp only [World.frozen?, e]; simp⟩
theorem FourF.chg (h : FourF w g kd a b s) (hc : Chg lo hi w w') (hd : g < lo ∨ hi ≤ g) : FourF w' g kd a b s :=
  have e := hc.block g h.1.1 hd
  ⟨h.1.chg hc hd, (World.frozen?_of_block (w := w) (a := ⟨g, 0, none⟩) e).trans h.2.1, (World.frozen?_of_block (w := w) (a := ⟨g, 1, none⟩) e).trans h.2.2.1, (World.frozen?_of_block (w := w) (a := ⟨g, 2, none⟩) e).trans h.2.2.2.1, (World.frozen?_of_block (w := w) (a := ⟨g, 3, none⟩) e).trans h.2.2.2.2⟩
theorem FourF.dr (h : FourF w g kd a b s) : FourF w.drew g kd a b s := h
theorem FourF.up (h : FourF w g kd a b s) (hb : Below w.heap.size w w') : FourF w' g kd a b s := h.chg (lo := w.heap.size) (hi := w.heap.size) (Chg.of_below hb) (.inl h.1.1)
theorem Chg.cells (hc : Chg g (g + 1) w w') : ∀ b o, b < w.heap.size → ¬ b = g → w'.cell? ⟨b, o, none⟩ = w.cell? ⟨b, o, none⟩ := fun b o hb hn => World.cell?_of_block (w := w) (a := ⟨b, o, none⟩) (hc.block b hb (by omega))
theorem Chg.frozens (hc : Chg g (g + 1) w w') : ∀ b o, b < w.heap.size → ¬ b = g → w'.frozen? ⟨b, o, none⟩ = w.frozen? ⟨b, o, none⟩ := fun b o hb hn => World.frozen?_of_block (w := w) (a := ⟨b, o, none⟩) (hc.block b hb (by omega))
theorem Chg.dr {w a : World} (h : Chg lo hi w a) : Chg lo hi w a.drew := h.drewN 1
theorem Rdr.al (h : Rdr w lo g p) (o : Obj) : Rdr (w.alloc o) lo g p := h.up (below_new w o)
theorem Rdr.dr (h : Rdr w lo g p) : Rdr w.drew lo g p := h
theorem Rdr.st (h : Rdr w lo g p) {q : Addr} (h1 : lo ≤ q.block) (h2 : ¬ q.block = g) (u : Value) : Rdr (w.setCell q u) lo g p :=
  h.chg ((Chg.refl q.block (q.block + 1) w).setCell (Nat.le_refl _) (Nat.lt_succ_self _) u) h1 (by omega)
theorem FourF.set (h : FourF w g kd a b s) (x y z : Int) (u : ByteArray) : FourF ((((w.setCell ⟨g, 0, none⟩ (.int .i64 x)).setCell ⟨g, 1, none⟩ (.int .i64 y)).setCell ⟨g, 2, none⟩ (.int .i64 z)).setCell ⟨g, 3, none⟩ (.string u)) g x y z u := by
  obtain ⟨⟨h0, h1, h2, h3, h4⟩, f0, f1, f2, f3⟩ := h
  have far : ∀ (w : World) (i j : Nat) (v : Value), i ≠ j → (w.setCell ⟨g, i, none⟩ v).cell? ⟨g, j, none⟩ = w.cell? ⟨g, j, none⟩ := fun w i j v hij => World.cell?_setCell_other _ _ _ _ (by intro e; cases e; exact hij rfl)
  refine ⟨⟨by simpa using h0, ?_, ?_, ?_, ?_⟩, ?_, ?_, ?_, ?_⟩
  · rw [far _ 3 0 _ (by omega), far _ 2 0 _ (by omega), far _ 1 0 _ (by omega)]; exact World.cell?_setCell_same _ _ _ h1
  · rw [far _ 3 1 _ (by omega), far _ 2 1 _ (by omega)]; exact World.cell?_setCell_same _ _ _ ((far _ 0 1 _ (by omega)).trans h2)
  · rw [far _ 3 2 _ (by omega)]; exact World.cell?_setCell_same _ _ _ ((far _ 1 2 _ (by omega)).trans ((far _ 0 2 _ (by omega)).trans h3))
  · exact World.cell?_setCell_same _ _ _ ((far _ 2 3 _ (by omega)).trans ((far _ 1 3 _ (by omega)).trans ((far _ 0 3 _ (by omega)).trans h4)))
  all_goals
    simp only [World.frozen?_setCell]
    assumption
theorem FourF.set1 (h : FourF w g kd a b s) (y : Int) : FourF (w.setCell ⟨g, 1, none⟩ (.int .i64 y)) g kd y b s := by
  obtain ⟨⟨h0, h1, h2, h3, h4⟩, f0, f1, f2, f3⟩ := h
  have far : ∀ (i j : Nat) (v : Value), i ≠ j → (w.setCell ⟨g, i, none⟩ v).cell? ⟨g, j, none⟩ = w.cell? ⟨g, j, none⟩ := fun i j v hij => World.cell?_setCell_other _ _ _ _ (by intro e; cases e; exact hij rfl)
  refine ⟨⟨by simpa using h0, (far 1 0 _ (by omega)).trans h1, World.cell?_setCell_same _ _ _ h2, (far 1 2 _ (by omega)).trans h3, (far 1 3 _ (by omega)).trans h4⟩, ?_, ?_, ?_, ?_⟩ <;> (rw [World.frozen?_setCell]; assumption)
theorem FourF.set2 (h : FourF w g kd a b s) (y : Int) : FourF (w.setCell ⟨g, 2, none⟩ (.int .i64 y)) g kd a y s := by
  obtain ⟨⟨h0, h1, h2, h3, h4⟩, f0, f1, f2, f3⟩ := h
  have far : ∀ (i j : Nat) (v : Value), i ≠ j → (w.setCell ⟨g, i, none⟩ v).cell? ⟨g, j, none⟩ = w.cell? ⟨g, j, none⟩ := fun i j v hij => World.cell?_setCell_other _ _ _ _ (by intro e; cases e; exact hij rfl)
  refine ⟨⟨by simpa using h0, (far 2 0 _ (by omega)).trans h1, (far 2 1 _ (by omega)).trans h2, World.cell?_setCell_same _ _ _ h3, (far 2 3 _ (by omega)).trans h4⟩, ?_, ?_, ?_, ?_⟩ <;> (rw [World.frozen?_setCell]; assumption)
theorem FourF.set3 (h : FourF w g kd a b s) (u : ByteArray) : FourF (w.setCell ⟨g, 3, none⟩ (.string u)) g kd a b u := by
  obtain ⟨⟨h0, h1, h2, h3, h4⟩, f0, f1, f2, f3⟩ := h
  have far : ∀ (i j : Nat) (v : Value), i ≠ j → (w.setCell ⟨g, i, none⟩ v).cell? ⟨g, j, none⟩ = w.cell? ⟨g, j, none⟩ := fun i j v hij => World.cell?_setCell_other _ _ _ _ (by intro e; cases e; exact hij rfl)
  refine ⟨⟨by simpa using h0, (far 3 0 _ (by omega)).trans h1, (far 3 1 _ (by omega)).trans h2, (far 3 2 _ (by omega)).trans h3, World.cell?_setCell_same _ _ _ h4⟩, ?_, ?_, ?_, ?_⟩ <;> (rw [World.frozen?_setCell]; assumption)
/-- A deed of its own block, the reader beside it. -/
def Out2 (wj wx : World) (lo g p : Nat) (v : Value) : Prop := ∃ b kd, v = .pointer (some ⟨b, 0, none⟩) ∧ FourF wx b kd 0 0 ⟨#[]⟩ ∧ wj.heap.size ≤ b ∧ Rdr wx lo g p ∧ Chg g (g + 1) wj wx
theorem Out2.al {wj wx : World} {v : Value} (h : Out2 wj wx lo g p v) (o : Obj) : Out2 wj (wx.alloc o) lo g p v := by
  obtain ⟨b, kd, e, hF, hb, hr, hc⟩ := h
  exact ⟨b, kd, e, hF.up (below_new _ _), hb, hr.al o, hc.allocNew o⟩
theorem outA {wj wx : World} (hr : Rdr wx lo g p) (hc : Chg g (g + 1) wj wx) (kd : Int) : Out2 wj (wx.alloc (.cells #[.int .i64 kd, .int .i64 0, .int .i64 0, .string ⟨#[]⟩] 34)) lo g p (.pointer (some ⟨wx.heap.size, 0, none⟩)) :=
  ⟨_, kd, rfl, FourF.made wx _ kd 0 0 _, hc.size, hr.al _, hc.allocNew _⟩
theorem outC {wj wx : World} (hr : Rdr wx lo g p) (hc : Chg g (g + 1) wj wx) (kd : Int) (o : Obj) : Out2 wj ((wx.alloc o).alloc (.cells #[.int .i64 kd, .int .i64 0, .int .i64 0, .string ⟨#[]⟩] 34)) lo g p (.pointer (some ⟨wx.heap.size + 1, 0, none⟩)) := by
  have h := outA (hr.al o) (hc.allocNew o) kd
  rw [World.size_alloc] at h
  exact h
theorem outB {wj wx : World} {B : Nat} (hr : Rdr wx lo g p) (hc : Chg g (g + 1) wj wx) (hF : FourF wx B 0 0 0 ⟨#[]⟩) (hB : wj.heap.size ≤ B) (hg : ¬ B = g) (hl : lo ≤ B) (kd : Int) : Out2 wj ((((wx.setCell ⟨B, 0, none⟩ (.int .i64 kd)).setCell ⟨B, 1, none⟩ (.int .i64 0)).setCell ⟨B, 2, none⟩ (.int .i64 0)).setCell ⟨B, 3, none⟩ (.string ⟨#[]⟩)) lo g p (.pointer (some ⟨B, 0, none⟩)) :=
  ⟨B, kd, rfl, hF.set _ _ _ _, hB, (((hr.st hl hg _).st hl hg _).st hl hg _).st hl hg _, (((hc.setNew hB _).setNew hB _).setNew hB _).setNew hB _⟩
end
/-- What drawing a deed comes to. -/
def DeedDrawn (w : World) (lo g p : Nat) (e : Ending) (w' : World) : Prop :=
  ∃ (kd a b : Int) (s : ByteArray), e = .returned (.agg #[.int .i64 kd, .int .i64 a, .int .i64 b, .string s]) ∧ s.size ≤ 7 ∧ Rdr w' lo g (p + 100) ∧ Chg g (g + 1) w w'
/-- The deed that is being drawn (block b), and the result's block. -/
structure DSt (w wx : World) (lo g q b : Nat) (kd a e : Int) (s : ByteArray) : Prop where
  d : FourF wx b kd a e s
  r : FourF wx w.heap.size 0 0 0 ⟨#[]⟩
  rdr : Rdr wx lo g q
  chg : Chg g (g + 1) w wx
  hb : w.heap.size < b
  hg : g < w.heap.size
section
variable {w wx w' : World} {lo g q q' b : Nat} {kd a e : Int} {s : ByteArray}
theorem DSt.pick (h : DSt w wx lo g q b kd a e s) (hr : Rdr w' lo g q') (hc : Chg g (g + 1) wx w') : DSt w w' lo g q' b kd a e s :=
  ⟨h.d.chg hc (.inr (by have := h.hb; have := h.hg; omega)), h.r.chg hc (.inr h.hg), hr, h.chg.chg_ hc (.inr ⟨Nat.le_refl _, Nat.le_refl _⟩), h.hb, h.hg⟩
theorem DSt.up (h : DSt w wx lo g q b kd a e s) (hb : Below wx.heap.size wx w') : DSt w w' lo g q b kd a e s :=
  ⟨h.d.up hb, h.r.up hb, h.rdr.up hb, h.chg.up_ hb, h.hb, h.hg⟩
theorem DSt.al (h : DSt w wx lo g q b kd a e s) (o : Obj) : DSt w (wx.alloc o) lo g q b kd a e s := h.up (below_new _ _)
theorem DSt.stq (h : DSt w wx lo g q b kd a e s) (i : Nat) (v : Value) : FourF (wx.setCell ⟨b, i, none⟩ v) w.heap.size 0 0 0 ⟨#[]⟩ ∧ Rdr (wx.setCell ⟨b, i, none⟩ v) lo g q ∧ Chg g (g + 1) w (wx.setCell ⟨b, i, none⟩ v) := by
  have h1 := h.hb
  have h2 := h.hg
  have h3 := h.rdr.lo
  refine ⟨h.r.chg ((Chg.refl b (b + 1) wx).setCell (p := ⟨b, i, none⟩) (Nat.le_refl _) (Nat.lt_succ_self _) v) (.inl h1), h.rdr.st (q := ⟨b, i, none⟩) (by show lo ≤ b; omega) (by show ¬ b = g; omega) v, h.chg.setNew (p := ⟨b, i, none⟩) (by show w.heap.size ≤ b; omega) v⟩
theorem DSt.s1 (h : DSt w wx lo g q b kd a e s) (y : Int) : DSt w (wx.setCell ⟨b, 1, none⟩ (.int .i64 y)) lo g q b kd y e s :=
  have k := h.stq 1 (.int .i64 y)
  ⟨h.d.set1 y, k.1, k.2.1, k.2.2, h.hb, h.hg⟩
theorem DSt.s2 (h : DSt w wx lo g q b kd a e s) (y : Int) : DSt w (wx.setCell ⟨b, 2, none⟩ (.int .i64 y)) lo g q b kd a y s :=
  have k := h.stq 2 (.int .i64 y)
  ⟨h.d.set2 y, k.1, k.2.1, k.2.2, h.hb, h.hg⟩
theorem DSt.s3 (h : DSt w wx lo g q b kd a e s) (y : ByteArray) : DSt w (wx.setCell ⟨b, 3, none⟩ (.string y)) lo g q b kd a e y :=
  have k := h.stq 3 (.string y)
  ⟨h.d.set3 y, k.1, k.2.1, k.2.2, h.hb, h.hg⟩
theorem DSt.end_ (h : DSt w wx lo g q b kd a e s) : (∀ {p : Nat}, q ≤ p + 100 → s.size ≤ 7 → DeedDrawn w lo g p (.returned (.agg #[.int .i64 kd, .int .i64 a, .int .i64 e, .string s])) ((((wx.setCell ⟨w.heap.size, 0, none⟩ (.int .i64 kd)).setCell ⟨w.heap.size, 1, none⟩ (.int .i64 a)).setCell ⟨w.heap.size, 2, none⟩ (.int .i64 e)).setCell ⟨w.heap.size, 3, none⟩ (.string s))) ∧
    (let w9 := (((wx.setCell ⟨w.heap.size, 0, none⟩ (.int .i64 kd)).setCell ⟨w.heap.size, 1, none⟩ (.int .i64 a)).setCell ⟨w.heap.size, 2, none⟩ (.int .i64 e)).setCell ⟨w.heap.size, 3, none⟩ (.string s)
     w9.cell? ⟨w.heap.size, 0, none⟩ = some (.int .i64 kd) ∧ w9.cell? ⟨w.heap.size, 1, none⟩ = some (.int .i64 a) ∧ w9.cell? ⟨w.heap.size, 2, none⟩ = some (.int .i64 e) ∧ w9.cell? ⟨w.heap.size, 3, none⟩ = some (.string s)) := by
  have hf := h.r.set kd a e s
  have h2 := h.hg
  have h3 := h.rdr.lo
  have hl : lo ≤ w.heap.size := by omega
  have hn : ¬ w.heap.size = g := by omega
  have hle := Nat.le_refl w.heap.size
  exact ⟨fun hq hs => ⟨kd, a, e, s, rfl, hs, ((((h.rdr.st (q := ⟨w.heap.size, 0, none⟩) hl hn _).st (q := ⟨w.heap.size, 1, none⟩) hl hn _).st (q := ⟨w.heap.size, 2, none⟩) hl hn _).st (q := ⟨w.heap.size, 3, none⟩) hl hn _).more hq, (((h.chg.setNew (p := ⟨w.heap.size, 0, none⟩) hle _).setNew (p := ⟨w.heap.size, 1, none⟩) hle _).setNew (p := ⟨w.heap.size, 2, none⟩) hle _).setNew (p := ⟨w.heap.size, 3, none⟩) hle _⟩, hf.1.2⟩
end
def lit3 (x : Nat) : Int := gI [-1, 8, 1000000] x
theorem lit3_at (V : World) {x : Nat} (h : x < 3) : (V.alloc (.cells #[.int .i64 (-1), .int .i64 8, .int .i64 1000000] 3)).cell? ⟨V.heap.size, x, none⟩ = some (.int .i64 (lit3 x)) := by
  rw [World.cell?_alloc_at _ _ _ _ rfl]
  match x, h with
  | 0, _ => rfl
  | 1, _ => rfl
  | 2, _ => rfl
theorem mtI_size (xs : List Int) : (mtI xs).size ≤ 7 := by
  unfold mtI
  split
  · rename_i h
    rw [mtX_size]
    exact (mapOk_bounds h).2
  · exact Nat.zero_le _
def lit7 (x : Nat) : Int := gI [0, 0, 0, 1, 2, 3, 4] x
def Any2 (w : World) : Prop := True
set_option maxRecDepth 100000 in
set_option maxHeartbeats 20000000 in
theorem deed_c (g lo p n c : Nat) (A : Option Addr) (xs : List Int) (w : World) (h : Rdr w lo g p) (hF : Rd w w.heap.size A n c xs) (hp : p ≤ 100000) (hn : n ≤ 7) :
    Calls Try.prog 62 #[.pointer (some ⟨g, 0, none⟩), .slice A n c] w (DeedDrawn w lo g p) := by
  have hgl := h.lt
  have hlog := h.lo
  have hcF := hF.cap
  have hmF := hF.max
  unfold maxLen at hmF
  have hbR := below_new w (.cells #[.int .i64 0, .int .i64 0, .int .i64 0, .string ⟨#[]⟩] 34)
  have hR1 := FourF.made w 34 0 0 0 ⟨#[]⟩
  have hr1 := h.up hbR
  have hgz : g < (w.alloc (.cells #[.int .i64 0, .int .i64 0, .int .i64 0, .string ⟨#[]⟩] 34)).heap.size := hr1.lt
  have hc1 : Chg g (g + 1) w (w.alloc (.cells #[.int .i64 0, .int .i64 0, .int .i64 0, .string ⟨#[]⟩] 34)) := (Chg.refl _ _ _).allocNew _
  go_enter Try.func62, Try.ntmps62
  go_upto_region 2 with fail
  generalize w.alloc (.cells #[.int .i64 0, .int .i64 0, .int .i64 0, .string ⟨#[]⟩] 34) = w1 at *
  have hrd : Rdr w1.drew lo g p := hr1.dn 1
  have hgd : g < w1.drew.heap.size := hgz
  have hcd : Chg g (g + 1) w w1.drew := hc1.drewN 1
  go_cut [6] (fun s6 wx => Out2 w1 wx lo g (p + 1 + 1) s6)
  case first =>
    have hC0 : Chg g (g + 1) w1 w1.drew := (Chg.refl _ _ w1).drewN 1
    have hn0 : ¬ w1.heap.size = g := by omega
    have hn1 : ¬ w1.heap.size + 1 = g := by omega
    clear hR1 h hF hcF hmF hn hrd hgd hcd hbR hc1
    go_region_with (first
      | (go_at_call_of 76 (Value.int IntKind.i64 7); refine (pick_c g lo p 7 _ (by repeat (first | with_reducible exact hr1 | with_reducible refine Rdr.dr ?_ | with_reducible refine Rdr.al ?_ _)) (by omega) (by omega)).mono ?_; rintro e w2 ⟨x, rfl, hx, hr2, hc2⟩; have hk2 := hc2.cells; have hf2 := hc2.frozens; have hz2 := hc2.size; (try have hl2a : w1.heap.size < w2.heap.size := by (have := hc2.size; (try simp at this); omega)); (try have fz2 : FourF w2 w1.heap.size 0 0 0 ⟨#[]⟩ := FourF.chg (by first | with_reducible exact (FourF.made w1 _ 0 0 0 ⟨#[]⟩).dr | with_reducible exact ((FourF.made w1 _ 0 0 0 ⟨#[]⟩).up (below_new _ _)).dr) hc2 (by omega)); (try have fy2 : FourF w2 (w1.heap.size + 1) 0 0 0 ⟨#[]⟩ := FourF.chg (by (have h9 := FourF.made (w1.alloc (.cells #[.int .i64 0, .int .i64 0, .int .i64 0, .int .i64 1, .int .i64 2, .int .i64 3, .int .i64 4] 3)) 34 0 0 0 ⟨#[]⟩; rw [World.size_alloc] at h9; with_reducible exact h9.dr)) hc2 (by omega)); (try have hl2b : w1.heap.size + 1 < w2.heap.size := by (have := hc2.size; (try simp at this); omega)); have hx7 := hx (by omega); have hxn : x < 7 := (by omega); have hx0 : (0 : Int) ≤ (x : Int) := Int.natCast_nonneg _; have hel : ∀ h : x < [Value.int .i64 0, Value.int .i64 0, Value.int .i64 0, Value.int .i64 1, Value.int .i64 2, Value.int .i64 3, Value.int .i64 4].length, [Value.int .i64 0, Value.int .i64 0, Value.int .i64 0, Value.int .i64 1, Value.int .i64 2, Value.int .i64 3, Value.int .i64 4][x]'h = Value.int .i64 (lit7 x) := (fun h => by match x, hxn with | 0, _ => rfl | 1, _ => rfl | 2, _ => rfl | 3, _ => rfl | 4, _ => rfl | 5, _ => rfl | 6, _ => rfl); have hn20 : ¬ w2.heap.size = g := (by have := hr2.lt; omega); have hn21 : ¬ w2.heap.size + 1 = g := (by have := hr2.lt; omega))
      | (go_at_call_of 76 (Value.int IntKind.i64 60); refine (pick_c g lo (p + 1) 60 _ (by repeat (first | with_reducible exact hr2 | with_reducible refine Rdr.dr ?_ | with_reducible refine Rdr.al ?_ _)) (by omega) (by omega)).mono ?_; rintro e w3 ⟨y, rfl, hy, hr3, hc3⟩; have hk3 := hc3.cells; have hf3 := hc3.frozens; have hz3 := hc3.size; (try have hl3a : w1.heap.size < w3.heap.size := by (have := hc3.size; (try simp at this); omega)); (try have hl3b : w1.heap.size + 1 < w3.heap.size := by (have := hc3.size; (try simp at this); omega)); (try have hl3c : w2.heap.size < w3.heap.size := by (have := hc3.size; (try simp at this); omega)); (try have hl3d : w2.heap.size + 1 < w3.heap.size := by (have := hc3.size; (try simp at this); omega)); (try have fz3 : FourF w3 w1.heap.size 0 0 0 ⟨#[]⟩ := FourF.chg (by first | with_reducible exact fz2 | with_reducible exact fz2.up (below_new _ _)) hc3 (by omega)); (try have fy3 : FourF w3 (w1.heap.size + 1) 0 0 0 ⟨#[]⟩ := FourF.chg (by first | with_reducible exact fy2 | with_reducible exact fy2.up (below_new _ _)) hc3 (by omega)); (try have fu3 : FourF w3 w2.heap.size 0 0 0 ⟨#[]⟩ := FourF.chg (by first | with_reducible exact FourF.made w2 _ 0 0 0 ⟨#[]⟩ | with_reducible exact (FourF.made w2 _ 0 0 0 ⟨#[]⟩).up (below_new _ _)) hc3 (by omega)); (try have fv3 : FourF w3 (w2.heap.size + 1) 0 0 0 ⟨#[]⟩ := FourF.chg (by (have h9 := FourF.made (w2.alloc (.cells #[.int .i64 0, .int .i64 0, .int .i64 0, .int .i64 1, .int .i64 2, .int .i64 3, .int .i64 4] 3)) 34 0 0 0 ⟨#[]⟩; rw [World.size_alloc] at h9; with_reducible exact h9)) hc3 (by omega)); have hC2 : Chg g (g + 1) w1 w2 := (by refine Chg.chg_ (lo' := g) (hi' := g + 1) ?_ hc2 (.inr ⟨Nat.le_refl _, Nat.le_refl _⟩); repeat (first | with_reducible exact Chg.refl _ _ _ | with_reducible refine Chg.dr ?_ | with_reducible refine Chg.allocNew ?_ _)); have hC3 : Chg g (g + 1) w1 w3 := (by refine Chg.chg_ (lo' := g) (hi' := g + 1) ?_ hc3 (.inr ⟨Nat.le_refl _, Nat.le_refl _⟩); repeat (first | with_reducible exact hC2 | with_reducible refine Chg.allocNew ?_ _)); have hz12 := hC2.size; have hg2 := hr2.lt; have hy60 := hy (by omega); have hy0 : (0 : Int) ≤ (y : Int) := Int.natCast_nonneg _))
    all_goals
      go_wp2_with fail
      go_meet
      first
        | with_reducible exact outA hr3 hC3 _
        | with_reducible exact outB hr3 hC3 fz3 (by omega) (by omega) (by omega) _
        | with_reducible exact outB hr3 hC3 fy3 (by omega) (by omega) (by omega) _
        | with_reducible exact outB hr3 hC3 fu3 (by omega) (by omega) (by omega) _
        | with_reducible exact outB hr3 hC3 fv3 (by omega) (by omega) (by omega) _
        | with_reducible exact outC hr3 hC3 _ _
        | with_reducible exact (outA hr3 hC3 _).al _
        | with_reducible exact (outB hr3 hC3 fz3 (by omega) (by omega) (by omega) _).al _
        | with_reducible exact (outB hr3 hC3 fy3 (by omega) (by omega) (by omega) _).al _
        | with_reducible exact (outB hr3 hC3 fu3 (by omega) (by omega) (by omega) _).al _
        | with_reducible exact (outB hr3 hC3 fv3 (by omega) (by omega) (by omega) _).al _
  case rest =>
    obtain ⟨b, kd, rfl, hD, hbz, hr2, hc2⟩ := hcut
    generalize wc = w2 at *
    have st2 : DSt w w2 lo g (p + 1 + 1) b kd 0 0 ⟨#[]⟩ := ⟨hD, hR1.chg hc2 (.inr (by omega)), hr2, hc1.chg_ hc2 (.inr ⟨Nat.le_refl _, Nat.le_refl _⟩), by have := hR1.1.1; omega, hgl⟩
    clear hD hr2 hR1 hrd hgd hcd hbR hc1 hc2 hr1
    obtain ⟨M, hM⟩ : ∃ M : Nat, M = max n 1 := ⟨_, rfl⟩
    have hmx : max (n : Int) 1 = (M : Int) := by omega
    have hM1 : 1 ≤ M ∧ M ≤ 7 := by omega
    obtain ⟨hM1, hM7⟩ := hM1
    clear hM
    have hkd : kd = 0 ∨ kd = 1 ∨ kd = 2 ∨ kd = 3 ∨ (¬ kd = 0 ∧ ¬ kd = 1 ∧ ¬ kd = 2 ∧ ¬ kd = 3) := by omega
    obtain ⟨⟨_, c0, c1, c2, c3⟩, f0, f1, f2, f3⟩ := id st2.d
    rcases hkd with hk | hk | hk | hk | ⟨hk0, hk1, hk2, hk3⟩
    · subst hk
      go_wp2_with fail
      clear c0 c1 c2 c3 f0 f1 f2 f3
      refine (pick_c g lo (p + 1 + 1) (M : Int) _ st2.rdr (by omega) (by omega)).mono ?_
      rintro e w3 ⟨x3, rfl, hx3, hr3, hc3⟩
      have st3 := st2.pick hr3 hc3
      clear hr3 st2
      obtain ⟨⟨_, c0, c1, c2, c3⟩, f0, f1, f2, f3⟩ := id st3.d
      go_wp2_with fail
      clear c0 c1 c2 c3 f0 f1 f2 f3
      have st4 := st3.s1 (x3 : Int)
      clear st3
      refine (pick_c g lo (p + 1 + 1 + 1) (M : Int) _ st4.rdr (by omega) (by omega)).mono ?_
      rintro e w5 ⟨x5, rfl, hx5, hr5, hc5⟩
      have st5 := st4.pick hr5 hc5
      clear hr5 st4
      obtain ⟨⟨_, c0, c1, c2, c3⟩, f0, f1, f2, f3⟩ := id st5.d
      go_wp2_with fail
      clear c0 c1 c2 c3 f0 f1 f2 f3
      have st6 := st5.s2 (x5 : Int)
      clear st5
      refine (odd_c g lo (p + 1 + 1 + 1 + 1) 40 _ st6.rdr (by omega) (by omega)).mono ?_
      rintro e w20 ⟨bo, rfl, hr20, hc20⟩
      have st20 := st6.pick hr20 hc20
      clear st6 hr20 hc20
      rcases bo with _ | _
      · have hE := Lib.hid st20.end_
        obtain ⟨⟨_, c0, c1, c2, c3⟩, f0, f1, f2, f3⟩ := id st20.d
        obtain ⟨⟨_, r0, r1, r2, r3⟩, v0, v1, v2, v3⟩ := id st20.r
        clear st20
        go_wp2_with fail
        (try simp only [Exit.inBlock, Exit.then])
        refine bodyPost_ret (v := .agg #[.int .i64 0, .int .i64 (x3 : Int), .int .i64 (x5 : Int), .string ⟨#[]⟩]) ?_ rfl (hE.out.1 (by omega) (by first | omega | exact Nat.zero_le _))
        exact results_four (p := 4) rfl _ _ w.heap.size _ _ _ _ _ rfl hE.out.2 Try.underlying34 rfl deed_size
      · have st21 := st20.al (.cells #[.int .i64 (-1), .int .i64 8, .int .i64 1000000] 3)
        have hgl20 := st20.rdr.lt
        obtain ⟨⟨_, c0, c1, c2, c3⟩, f0, f1, f2, f3⟩ := id st20.d
        go_wp2_with fail
        clear c0 c1 c2 c3 f0 f1 f2 f3
        refine (pick_c g lo ((p + 1 + 1 + 1 + 1) + 1) 3 _ st21.rdr (by omega) (by omega)).mono ?_
        rintro e w22 ⟨x22, rfl, hx22, hr22, hc22⟩
        have st22 := st21.pick hr22 hc22
        have hx3 := hx22 (by omega)
        have hx3n : x22 < 3 := by omega
        have hcell : w22.cell? ⟨w20.heap.size, x22, none⟩ = some (.int .i64 (lit3 x22)) := (hc22.cells w20.heap.size x22 (by simp) (by omega)).trans (lit3_at w20 hx3n)
        have hx0 : (0 : Int) ≤ (x22 : Int) := Int.natCast_nonneg _
        have st23 := st22.s1 (lit3 x22)
        have hE := Lib.hid st23.end_
        obtain ⟨⟨_, c0, c1, c2, c3⟩, f0, f1, f2, f3⟩ := id st22.d
        obtain ⟨⟨_, r0, r1, r2, r3⟩, v0, v1, v2, v3⟩ := id st22.r
        obtain ⟨⟨_, d0, d1, d2, d3⟩, e0, e1, e2, e3⟩ := id st23.d
        obtain ⟨⟨_, s0, s1, s2, s3⟩, u0, u1, u2, u3⟩ := id st23.r
        clear st20 st21 st22 st23 hc22 hr22 hx22
        go_wp2_with fail
        (try simp only [Exit.inBlock, Exit.then])
        refine bodyPost_ret (v := .agg #[.int .i64 0, .int .i64 (lit3 x22), .int .i64 (x5 : Int), .string ⟨#[]⟩]) ?_ rfl (hE.out.1 (by omega) (by first | omega | exact Nat.zero_le _))
        exact results_four (p := 4) rfl _ _ w.heap.size _ _ _ _ _ rfl hE.out.2 Try.underlying34 rfl deed_size
    · subst hk
      go_wp2_with fail
      clear c0 c1 c2 c3 f0 f1 f2 f3
      refine (names_c g lo (p + 1 + 1) M _ st2.rdr (by omega) hM7).mono ?_
      rintro e w3 ⟨A3, n3, k3, xs3, rfl, hO3, _, hr3, hc3⟩
      have st3 := st2.pick hr3 hc3
      clear st2 hr3 hc3
      go_wp2_with fail
      refine (mapText_c A3 n3 k3 xs3 _ hO3.rd).mono ?_
      rintro e w4 ⟨rfl, hb4⟩
      have st4 := st3.up hb4
      have hs4 := mtI_size xs3
      clear st3 hO3 hb4
      generalize mtI xs3 = t3 at *
      obtain ⟨⟨_, c0, c1, c2, c3⟩, f0, f1, f2, f3⟩ := id st4.d
      go_wp2_with fail
      clear c0 c1 c2 c3 f0 f1 f2 f3
      have st5 := st4.s3 t3
      clear st4
      refine (pick_c g lo (p + 1 + 1 + 30) 2 _ st5.rdr (by omega) (by omega)).mono ?_
      rintro e w6 ⟨x6, rfl, hx6, hr6, hc6⟩
      have st6 := st5.pick hr6 hc6
      clear hr6 st5
      have hx6c : x6 = 0 ∨ ¬ x6 = 0 := by omega
      rcases hx6c with h0 | h0
      · subst h0
        go_wp2_with fail
        refine (map_c g lo (p + 1 + 1 + 30 + 1) 7 0 _ st6.rdr (by omega) (by omega) (by omega) (by omega)).mono ?_
        rintro e w7 ⟨A7, n7, k7, xs7, rfl, hO7, _, hr7, hc7⟩
        have st7 := st6.pick hr7 hc7
        clear st6 hr7 hc7
        go_wp2_with fail
        refine (mapText_c A7 n7 k7 xs7 _ hO7.rd).mono ?_
        rintro e w8 ⟨rfl, hb8⟩
        have st8 := st7.up hb8
        have hs8 := mtI_size xs7
        clear st7 hO7 hb8
        generalize mtI xs7 = t7 at *
        obtain ⟨⟨_, c0, c1, c2, c3⟩, f0, f1, f2, f3⟩ := id st8.d
        go_wp2_with fail
        clear c0 c1 c2 c3 f0 f1 f2 f3
        have st9 := st8.s3 t7
        clear st8
        refine (odd_c g lo (p + 1 + 1 + 30 + 1 + 30) 40 _ st9.rdr (by omega) (by omega)).mono ?_
        rintro e w20 ⟨bo, rfl, hr20, hc20⟩
        have st20 := st9.pick hr20 hc20
        clear st9 hr20 hc20
        rcases bo with _ | _
        · have hE := Lib.hid st20.end_
          obtain ⟨⟨_, c0, c1, c2, c3⟩, f0, f1, f2, f3⟩ := id st20.d
          obtain ⟨⟨_, r0, r1, r2, r3⟩, v0, v1, v2, v3⟩ := id st20.r
          clear st20
          go_wp2_with fail
          (try simp only [Exit.inBlock, Exit.then])
          refine bodyPost_ret (v := .agg #[.int .i64 1, .int .i64 0, .int .i64 0, .string t7]) ?_ rfl (hE.out.1 (by omega) (by first | omega | exact Nat.zero_le _))
          exact results_four (p := 4) rfl _ _ w.heap.size _ _ _ _ _ rfl hE.out.2 Try.underlying34 rfl deed_size
        · have st21 := st20.al (.cells #[.int .i64 (-1), .int .i64 8, .int .i64 1000000] 3)
          have hgl20 := st20.rdr.lt
          obtain ⟨⟨_, c0, c1, c2, c3⟩, f0, f1, f2, f3⟩ := id st20.d
          go_wp2_with fail
          clear c0 c1 c2 c3 f0 f1 f2 f3
          refine (pick_c g lo ((p + 1 + 1 + 30 + 1 + 30) + 1) 3 _ st21.rdr (by omega) (by omega)).mono ?_
          rintro e w22 ⟨x22, rfl, hx22, hr22, hc22⟩
          have st22 := st21.pick hr22 hc22
          have hx3 := hx22 (by omega)
          have hx3n : x22 < 3 := by omega
          have hcell : w22.cell? ⟨w20.heap.size, x22, none⟩ = some (.int .i64 (lit3 x22)) := (hc22.cells w20.heap.size x22 (by simp) (by omega)).trans (lit3_at w20 hx3n)
          have hx0 : (0 : Int) ≤ (x22 : Int) := Int.natCast_nonneg _
          have st23 := st22.s1 (lit3 x22)
          have hE := Lib.hid st23.end_
          obtain ⟨⟨_, c0, c1, c2, c3⟩, f0, f1, f2, f3⟩ := id st22.d
          obtain ⟨⟨_, r0, r1, r2, r3⟩, v0, v1, v2, v3⟩ := id st22.r
          obtain ⟨⟨_, d0, d1, d2, d3⟩, e0, e1, e2, e3⟩ := id st23.d
          obtain ⟨⟨_, s0, s1, s2, s3⟩, u0, u1, u2, u3⟩ := id st23.r
          clear st20 st21 st22 st23 hc22 hr22 hx22
          go_wp2_with fail
          (try simp only [Exit.inBlock, Exit.then])
          refine bodyPost_ret (v := .agg #[.int .i64 1, .int .i64 (lit3 x22), .int .i64 0, .string t7]) ?_ rfl (hE.out.1 (by omega) (by first | omega | exact Nat.zero_le _))
          exact results_four (p := 4) rfl _ _ w.heap.size _ _ _ _ _ rfl hE.out.2 Try.underlying34 rfl deed_size
      · have hx6b : ((x6 : Int) == 0) = false := by rw [beq_eq_false_iff_ne]; omega
        go_wp2_with fail
        refine (odd_c g lo (p + 1 + 1 + 30 + 1) 40 _ st6.rdr (by omega) (by omega)).mono ?_
        rintro e w20 ⟨bo, rfl, hr20, hc20⟩
        have st20 := st6.pick hr20 hc20
        clear st6 hr20 hc20
        rcases bo with _ | _
        · have hE := Lib.hid st20.end_
          obtain ⟨⟨_, c0, c1, c2, c3⟩, f0, f1, f2, f3⟩ := id st20.d
          obtain ⟨⟨_, r0, r1, r2, r3⟩, v0, v1, v2, v3⟩ := id st20.r
          clear st20
          go_wp2_with fail
          (try simp only [Exit.inBlock, Exit.then])
          refine bodyPost_ret (v := .agg #[.int .i64 1, .int .i64 0, .int .i64 0, .string t3]) ?_ rfl (hE.out.1 (by omega) (by first | omega | exact Nat.zero_le _))
          exact results_four (p := 4) rfl _ _ w.heap.size _ _ _ _ _ rfl hE.out.2 Try.underlying34 rfl deed_size
        · have st21 := st20.al (.cells #[.int .i64 (-1), .int .i64 8, .int .i64 1000000] 3)
          have hgl20 := st20.rdr.lt
          obtain ⟨⟨_, c0, c1, c2, c3⟩, f0, f1, f2, f3⟩ := id st20.d
          go_wp2_with fail
          clear c0 c1 c2 c3 f0 f1 f2 f3
          refine (pick_c g lo ((p + 1 + 1 + 30 + 1) + 1) 3 _ st21.rdr (by omega) (by omega)).mono ?_
          rintro e w22 ⟨x22, rfl, hx22, hr22, hc22⟩
          have st22 := st21.pick hr22 hc22
          have hx3 := hx22 (by omega)
          have hx3n : x22 < 3 := by omega
          have hcell : w22.cell? ⟨w20.heap.size, x22, none⟩ = some (.int .i64 (lit3 x22)) := (hc22.cells w20.heap.size x22 (by simp) (by omega)).trans (lit3_at w20 hx3n)
          have hx0 : (0 : Int) ≤ (x22 : Int) := Int.natCast_nonneg _
          have st23 := st22.s1 (lit3 x22)
          have hE := Lib.hid st23.end_
          obtain ⟨⟨_, c0, c1, c2, c3⟩, f0, f1, f2, f3⟩ := id st22.d
          obtain ⟨⟨_, r0, r1, r2, r3⟩, v0, v1, v2, v3⟩ := id st22.r
          obtain ⟨⟨_, d0, d1, d2, d3⟩, e0, e1, e2, e3⟩ := id st23.d
          obtain ⟨⟨_, s0, s1, s2, s3⟩, u0, u1, u2, u3⟩ := id st23.r
          clear st20 st21 st22 st23 hc22 hr22 hx22
          go_wp2_with fail
          (try simp only [Exit.inBlock, Exit.then])
          refine bodyPost_ret (v := .agg #[.int .i64 1, .int .i64 (lit3 x22), .int .i64 0, .string t3]) ?_ rfl (hE.out.1 (by omega) (by first | omega | exact Nat.zero_le _))
          exact results_four (p := 4) rfl _ _ w.heap.size _ _ _ _ _ rfl hE.out.2 Try.underlying34 rfl deed_size
    · subst hk
      go_wp2_with fail
      clear c0 c1 c2 c3 f0 f1 f2 f3
      refine (pick_c g lo (p + 1 + 1) 5 _ st2.rdr (by omega) (by omega)).mono ?_
      rintro e w3 ⟨x3, rfl, hx3, hr3, hc3⟩
      have st3 := st2.pick hr3 hc3
      clear hr3 st2
      go_wp2_with fail
      refine (pick_c g lo (p + 1 + 1 + 1) 20 _ st3.rdr (by omega) (by omega)).mono ?_
      rintro e w4 ⟨x4, rfl, hx4, hr4, hc4⟩
      have st4 := st3.pick hr4 hc4
      clear hr4 st3
      have hx4' := hx4 (by omega)
      have hx40 : (0 : Int) ≤ (x4 : Int) := Int.natCast_nonneg _
      have hx3' := hx3 (by omega)
      have hx30 : (0 : Int) ≤ (x3 : Int) := Int.natCast_nonneg _
      obtain ⟨⟨_, c0, c1, c2, c3⟩, f0, f1, f2, f3⟩ := id st4.d
      go_wp2_with fail
      clear c0 c1 c2 c3 f0 f1 f2 f3
      have st5 := st4.s1 ((x3 : Int) + (x4 : Int) / 19 * 999990)
      clear st4
      refine (odd_c g lo (p + 1 + 1 + 1 + 1) 40 _ st5.rdr (by omega) (by omega)).mono ?_
      rintro e w20 ⟨bo, rfl, hr20, hc20⟩
      have st20 := st5.pick hr20 hc20
      clear st5 hr20 hc20
      rcases bo with _ | _
      · have hE := Lib.hid st20.end_
        obtain ⟨⟨_, c0, c1, c2, c3⟩, f0, f1, f2, f3⟩ := id st20.d
        obtain ⟨⟨_, r0, r1, r2, r3⟩, v0, v1, v2, v3⟩ := id st20.r
        clear st20
        go_wp2_with fail
        (try simp only [Exit.inBlock, Exit.then])
        refine bodyPost_ret (v := .agg #[.int .i64 2, .int .i64 ((x3 : Int) + (x4 : Int) / 19 * 999990), .int .i64 0, .string ⟨#[]⟩]) ?_ rfl (hE.out.1 (by omega) (by first | omega | exact Nat.zero_le _))
        exact results_four (p := 4) rfl _ _ w.heap.size _ _ _ _ _ rfl hE.out.2 Try.underlying34 rfl deed_size
      · have st21 := st20.al (.cells #[.int .i64 (-1), .int .i64 8, .int .i64 1000000] 3)
        have hgl20 := st20.rdr.lt
        obtain ⟨⟨_, c0, c1, c2, c3⟩, f0, f1, f2, f3⟩ := id st20.d
        go_wp2_with fail
        clear c0 c1 c2 c3 f0 f1 f2 f3
        refine (pick_c g lo ((p + 1 + 1 + 1 + 1) + 1) 3 _ st21.rdr (by omega) (by omega)).mono ?_
        rintro e w22 ⟨x22, rfl, hx22, hr22, hc22⟩
        have st22 := st21.pick hr22 hc22
        have hx3 := hx22 (by omega)
        have hx3n : x22 < 3 := by omega
        have hcell : w22.cell? ⟨w20.heap.size, x22, none⟩ = some (.int .i64 (lit3 x22)) := (hc22.cells w20.heap.size x22 (by simp) (by omega)).trans (lit3_at w20 hx3n)
        have hx0 : (0 : Int) ≤ (x22 : Int) := Int.natCast_nonneg _
        have st23 := st22.s1 (lit3 x22)
        have hE := Lib.hid st23.end_
        obtain ⟨⟨_, c0, c1, c2, c3⟩, f0, f1, f2, f3⟩ := id st22.d
        obtain ⟨⟨_, r0, r1, r2, r3⟩, v0, v1, v2, v3⟩ := id st22.r
        obtain ⟨⟨_, d0, d1, d2, d3⟩, e0, e1, e2, e3⟩ := id st23.d
        obtain ⟨⟨_, s0, s1, s2, s3⟩, u0, u1, u2, u3⟩ := id st23.r
        clear st20 st21 st22 st23 hc22 hr22 hx22
        go_wp2_with fail
        (try simp only [Exit.inBlock, Exit.then])
        refine bodyPost_ret (v := .agg #[.int .i64 2, .int .i64 (lit3 x22), .int .i64 0, .string ⟨#[]⟩]) ?_ rfl (hE.out.1 (by omega) (by first | omega | exact Nat.zero_le _))
        exact results_four (p := 4) rfl _ _ w.heap.size _ _ _ _ _ rfl hE.out.2 Try.underlying34 rfl deed_size
    · subst hk
      go_wp2_with fail
      clear c0 c1 c2 c3 f0 f1 f2 f3
      refine (names_c g lo (p + 1 + 1) M _ st2.rdr (by omega) hM7).mono ?_
      rintro e w3 ⟨A3, n3, k3, xs3, rfl, hO3, _, hr3, hc3⟩
      have st3 := st2.pick hr3 hc3
      clear st2 hr3 hc3
      go_wp2_with fail
      refine (mapText_c A3 n3 k3 xs3 _ hO3.rd).mono ?_
      rintro e w4 ⟨rfl, hb4⟩
      have st4 := st3.up hb4
      have hs4 := mtI_size xs3
      clear st3 hO3 hb4
      generalize mtI xs3 = t3 at *
      obtain ⟨⟨_, c0, c1, c2, c3⟩, f0, f1, f2, f3⟩ := id st4.d
      go_wp2_with fail
      clear c0 c1 c2 c3 f0 f1 f2 f3
      have st5 := st4.s3 t3
      clear st4
      refine (odd_c g lo (p + 1 + 1 + 30) 40 _ st5.rdr (by omega) (by omega)).mono ?_
      rintro e w20 ⟨bo, rfl, hr20, hc20⟩
      have st20 := st5.pick hr20 hc20
      clear st5 hr20 hc20
      rcases bo with _ | _
      · have hE := Lib.hid st20.end_
        obtain ⟨⟨_, c0, c1, c2, c3⟩, f0, f1, f2, f3⟩ := id st20.d
        obtain ⟨⟨_, r0, r1, r2, r3⟩, v0, v1, v2, v3⟩ := id st20.r
        clear st20
        go_wp2_with fail
        (try simp only [Exit.inBlock, Exit.then])
        refine bodyPost_ret (v := .agg #[.int .i64 3, .int .i64 0, .int .i64 0, .string t3]) ?_ rfl (hE.out.1 (by omega) (by first | omega | exact Nat.zero_le _))
        exact results_four (p := 4) rfl _ _ w.heap.size _ _ _ _ _ rfl hE.out.2 Try.underlying34 rfl deed_size
      · have st21 := st20.al (.cells #[.int .i64 (-1), .int .i64 8, .int .i64 1000000] 3)
        have hgl20 := st20.rdr.lt
        obtain ⟨⟨_, c0, c1, c2, c3⟩, f0, f1, f2, f3⟩ := id st20.d
        go_wp2_with fail
        clear c0 c1 c2 c3 f0 f1 f2 f3
        refine (pick_c g lo ((p + 1 + 1 + 30) + 1) 3 _ st21.rdr (by omega) (by omega)).mono ?_
        rintro e w22 ⟨x22, rfl, hx22, hr22, hc22⟩
        have st22 := st21.pick hr22 hc22
        have hx3 := hx22 (by omega)
        have hx3n : x22 < 3 := by omega
        have hcell : w22.cell? ⟨w20.heap.size, x22, none⟩ = some (.int .i64 (lit3 x22)) := (hc22.cells w20.heap.size x22 (by simp) (by omega)).trans (lit3_at w20 hx3n)
        have hx0 : (0 : Int) ≤ (x22 : Int) := Int.natCast_nonneg _
        have st23 := st22.s1 (lit3 x22)
        have hE := Lib.hid st23.end_
        obtain ⟨⟨_, c0, c1, c2, c3⟩, f0, f1, f2, f3⟩ := id st22.d
        obtain ⟨⟨_, r0, r1, r2, r3⟩, v0, v1, v2, v3⟩ := id st22.r
        obtain ⟨⟨_, d0, d1, d2, d3⟩, e0, e1, e2, e3⟩ := id st23.d
        obtain ⟨⟨_, s0, s1, s2, s3⟩, u0, u1, u2, u3⟩ := id st23.r
        clear st20 st21 st22 st23 hc22 hr22 hx22
        go_wp2_with fail
        (try simp only [Exit.inBlock, Exit.then])
        refine bodyPost_ret (v := .agg #[.int .i64 3, .int .i64 (lit3 x22), .int .i64 0, .string t3]) ?_ rfl (hE.out.1 (by omega) (by first | omega | exact Nat.zero_le _))
        exact results_four (p := 4) rfl _ _ w.heap.size _ _ _ _ _ rfl hE.out.2 Try.underlying34 rfl deed_size
    · have q0 : (kd == 0) = false := by simpa using hk0
      have q1 : (kd == 1) = false := by simpa using hk1
      have q2 : (kd == 2) = false := by simpa using hk2
      have q3 : (kd == 3) = false := by simpa using hk3
      clear hk0 hk1 hk2 hk3
      go_wp2_with fail
      clear c0 c1 c2 c3 f0 f1 f2 f3
      refine (odd_c g lo (p + 1 + 1) 40 _ st2.rdr (by omega) (by omega)).mono ?_
      rintro e w20 ⟨bo, rfl, hr20, hc20⟩
      have st20 := st2.pick hr20 hc20
      clear st2 hr20 hc20
      rcases bo with _ | _
      · have hE := Lib.hid st20.end_
        obtain ⟨⟨_, c0, c1, c2, c3⟩, f0, f1, f2, f3⟩ := id st20.d
        obtain ⟨⟨_, r0, r1, r2, r3⟩, v0, v1, v2, v3⟩ := id st20.r
        clear st20
        go_wp2_with fail
        (try simp only [Exit.inBlock, Exit.then])
        refine bodyPost_ret (v := .agg #[.int .i64 kd, .int .i64 0, .int .i64 0, .string ⟨#[]⟩]) ?_ rfl (hE.out.1 (by omega) (by first | omega | exact Nat.zero_le _))
        exact results_four (p := 4) rfl _ _ w.heap.size _ _ _ _ _ rfl hE.out.2 Try.underlying34 rfl deed_size
      · have st21 := st20.al (.cells #[.int .i64 (-1), .int .i64 8, .int .i64 1000000] 3)
        have hgl20 := st20.rdr.lt
        obtain ⟨⟨_, c0, c1, c2, c3⟩, f0, f1, f2, f3⟩ := id st20.d
        go_wp2_with fail
        clear c0 c1 c2 c3 f0 f1 f2 f3
        refine (pick_c g lo ((p + 1 + 1) + 1) 3 _ st21.rdr (by omega) (by omega)).mono ?_
        rintro e w22 ⟨x22, rfl, hx22, hr22, hc22⟩
        have st22 := st21.pick hr22 hc22
        have hx3 := hx22 (by omega)
        have hx3n : x22 < 3 := by omega
        have hcell : w22.cell? ⟨w20.heap.size, x22, none⟩ = some (.int .i64 (lit3 x22)) := (hc22.cells w20.heap.size x22 (by simp) (by omega)).trans (lit3_at w20 hx3n)
        have hx0 : (0 : Int) ≤ (x22 : Int) := Int.natCast_nonneg _
        have st23 := st22.s1 (lit3 x22)
        have hE := Lib.hid st23.end_
        obtain ⟨⟨_, c0, c1, c2, c3⟩, f0, f1, f2, f3⟩ := id st22.d
        obtain ⟨⟨_, r0, r1, r2, r3⟩, v0, v1, v2, v3⟩ := id st22.r
        obtain ⟨⟨_, d0, d1, d2, d3⟩, e0, e1, e2, e3⟩ := id st23.d
        obtain ⟨⟨_, s0, s1, s2, s3⟩, u0, u1, u2, u3⟩ := id st23.r
        clear st20 st21 st22 st23 hc22 hr22 hx22
        go_wp2_with fail
        (try simp only [Exit.inBlock, Exit.then])
        refine bodyPost_ret (v := .agg #[.int .i64 kd, .int .i64 (lit3 x22), .int .i64 0, .string ⟨#[]⟩]) ?_ rfl (hE.out.1 (by omega) (by first | omega | exact Nat.zero_le _))
        exact results_four (p := 4) rfl _ _ w.heap.size _ _ _ _ _ rfl hE.out.2 Try.underlying34 rfl deed_size
end Go.Proofs.Ytnpjelekpkgbpaa
