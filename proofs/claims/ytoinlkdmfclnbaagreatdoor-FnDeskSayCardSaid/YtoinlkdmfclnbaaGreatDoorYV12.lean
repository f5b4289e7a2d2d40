/- Bundle V12. -/
import Derived.Lib.OwnBridge
import Derived.Test.YtoinlkdmfclnbaaGreatDoorYSh
import Derived.Test.YtoinlkdmfclnbaaGreatDoorYV10
namespace Go.Proofs.YtoinlkdmfclnbaaGreatDoor
set_option linter.unusedVariables false
section
open Go.RowKit Go.Sort
abbrev SlT := Option Addr × Nat × Nat
def encS (t : SlT) : Value := .slice t.1 t.2.1 t.2.2
theorem encS_all : ∀ (vs : List Value), (∀ j, j < vs.length → ∃ A n c, vs[j]? = some (.slice A n c)) → ∃ ts : List SlT, vs = ts.map encS
 | [], _ => ⟨[], rfl⟩
 | v :: vs, h => by
  obtain ⟨A, n, c, e⟩ := h 0 (by simp)
  simp at e
  obtain ⟨ts, rfl⟩ := encS_all vs (fun j hj => by
   obtain ⟨A, n, c, e⟩ := h (j + 1) (by simpa using hj)
   exact ⟨A, n, c, by simpa using e⟩)
  exact ⟨(A, n, c) :: ts, by rw [e]; rfl⟩
theorem grownBy_putRow {α : Type} [Inhabited α] {enc : α → Value} {w : World} {g q : Nat} (d : Array α) : w.grownBy (putRow enc (Sort.ahead w q) g 0 d) (some g) := by
 refine ⟨rfl, rfl, rfl, by simp [putRow, mapBlock, Sort.ahead], fun k hk hne => ?_⟩
 have : g ≠ k := fun e => hne (by rw [e])
 simp [putRow, mapBlock, Sort.ahead, Array.getElem?_modify, this]
theorem gR_drop (xss : List (List Int)) (j : Nat) : gR (xss.drop 1) j = gR xss (j + 1) := by
 unfold gR; simp only [List.getD, List.getElem?_drop]; rw [Nat.add_comm]
theorem delete_c (P : Option Addr) (d lo hi : Nat) (yss : List (List Int)) (w : World) (h : Ors w lo hi (.slice P 9 d) yss) (h9 : yss.length = 9) :
    Calls Tryz.prog 104 #[.slice P 9 d, .int .i64 0, .int .i64 1] w fun e w' => e = .returned (.slice P 8 d) ∧ Ors w' lo hi (.slice P 8 d) (yss.drop 1) ∧ Chg lo hi w w' := by
 obtain ⟨i0, hi0, hz0, hz1, hz2⟩ := info_parts row_info
 obtain ⟨vs, gs, hv, hb, hd, hr⟩ := h
 rw [h9] at hv
 have hvl : vs.length = 9 := by have := hv.1; omega
 obtain ⟨ts, rfl⟩ := encS_all vs (fun j hj => by
  obtain ⟨_, _, A, n, c, e, _⟩ := hr j (by omega)
  exact ⟨A, n, c, e⟩)
 rw [List.length_map] at hvl
 obtain ⟨g, cap, hP, hg1, hg2, hn, hm, hl, hH⟩ := Lib.holds_of_ownsRow hv (by intro e; cases e)
 cases hP
 have hcon := AnyE.slices_Delete delA encS (fun _ => rfl) ((none, 0, 0) : SlT) Tryz.zeroValue23 i0 hi0 hz1 g 0 d 0 1 ts.toArray w hH (by simpa [hl] using hn) (by unfold maxLen at hm; omega) (by omega) (by simp [hl])
 simp only [List.size_toArray, hl] at hcon
 change Calls Tryz.prog 104 _ _ _ at hcon
 refine Calls.mono hcon ?_
 rintro e w' ⟨rfl, q, rfl⟩
 have hgr : w.grownBy (putRow encS (Sort.ahead w q) g 0 (List.take 0 ts ++ List.drop 1 ts ++ List.replicate (1 - 0) (none, 0, 0)).toArray) (some g) := grownBy_putRow _
 have hon := Lib.ownsRow_putRow (q := q) (k := 8) (ys := List.take 0 ts ++ List.drop 1 ts ++ List.replicate (1 - 0) (none, 0, 0)) hv (by simp [hl]) (by omega)
 have het : (List.take 8 (List.take 0 ts ++ List.drop 1 ts ++ List.replicate (1 - 0) (none, 0, 0))).map encS = (ts.map encS).drop 1 := by
  rw [List.take_zero, List.nil_append, List.take_append_of_le_length (by simp [hl]), List.take_of_length_le (by simp [hl]), List.map_drop]
 rw [het] at hon
 have hhi := hb g rfl
 refine ⟨rfl, ⟨(ts.map encS).drop 1, fun j => gs (j + 1), ?_, fun k hk => by cases hk; exact hhi, fun i j hij hj => ?_, fun j hj => ?_⟩, ?_⟩
 · rw [List.length_drop, h9]; exact hon
 · rw [List.length_drop, h9] at hj; exact hd (i + 1) (j + 1) (by omega) (by omega)
 · rw [List.length_drop, h9] at hj
   obtain ⟨h1, h2, A, n, c, e, hO⟩ := hr (j + 1) (by omega)
   refine ⟨h1, h2, A, n, c, by rw [List.getElem?_drop, Nat.add_comm]; exact e, ?_⟩
   rw [gR_drop]
   exact hO.grown hgr (fun g hgg => ne_outer hv hO g hgg)
 · exact ⟨hgr.os, hgr.tape, hgr.output, hgr.size, fun k hk ho => hgr.block k hk (fun e => by cases e; omega)⟩
def DoOut (w : World) (r : List Int × List (List Int) × Bool) (e : Ending) (w' : World) : Prop :=
 ∃ A n c P m d, e = .returned (.tuple #[.agg #[.slice A n c, .slice P m d], .bool r.2.2]) ∧ OwnD w' w.heap.size w'.heap.size A n c r.1 P m d r.2.1 ∧ Below w.heap.size w w'
structure DoFr (w wr : World) (x y : Value) (kd a b : Int) (s : ByteArray) : Prop where
 two : Two wr w.heap.size x y
 four : Four wr (w.heap.size + 1) kd a b s
 res : Two wr (w.heap.size + 2) (.slice none 0 0) (.slice none 0 0)
 bel : Below w.heap.size w wr
section
variable {w wr w' : World} {x y : Value} {kd a b : Int} {s : ByteArray}
theorem DoFr.made (w : World) (x y : Value) (kd a b : Int) (s : ByteArray) : DoFr w (((w.alloc (.cells #[x, y] 26)).alloc (.cells #[.int .i64 kd, .int .i64 a, .int .i64 b, .string s] 55)).alloc (.cells #[.slice none 0 0, .slice none 0 0] 26)) x y kd a b s := by
 have h3 := Two.made ((w.alloc (.cells #[x, y] 26)).alloc (.cells #[.int .i64 kd, .int .i64 a, .int .i64 b, .string s] 55)) 26 (.slice none 0 0) (.slice none 0 0)
 have h2 := Four.made (w.alloc (.cells #[x, y] 26)) 55 kd a b s
 simp only [World.size_alloc] at h3 h2
 exact ⟨((Two.made w 26 x y).alloc _).alloc _, h2.up ((Below.refl _ _).alloc (Nat.le_refl _) _), h3, (((Below.refl _ _).alloc (Nat.le_refl _) _).alloc (by simp) _).alloc (by simp; omega) _⟩
theorem DoFr.up (h : DoFr w wr x y kd a b s) (hb : Below wr.heap.size wr w') : DoFr w w' x y kd a b s := ⟨h.two.up hb, h.four.up hb, h.res.up hb, bt h.bel hb⟩
theorem DoFr.dn (h : DoFr w wr x y kd a b s) (m : Nat) : DoFr w (wr.drewN m) x y kd a b s := ⟨h.two, h.four, h.res, bd h.bel m⟩
theorem DoFr.size (h : DoFr w wr x y kd a b s) : w.heap.size + 3 ≤ wr.heap.size := h.res.1
theorem DoFr.end_ {A P : Option Addr} {n c m d lo hi : Nat} {xs : List Int} {yss : List (List Int)} (h : DoFr w wr x y kd a b s) (hO : OwnD wr lo hi A n c xs P m d yss) (hlo : w.heap.size + 3 ≤ lo) (hhi : hi ≤ wr.heap.size) (r : Bool) :
    DoOut w (xs, yss, r) (.returned (.tuple #[.agg #[.slice A n c, .slice P m d], .bool r])) ((wr.setCell ⟨w.heap.size + 2, 0, none⟩ (.slice A n c)).setCell ⟨w.heap.size + 2, 1, none⟩ (.slice P m d)) ∧
    Two ((wr.setCell ⟨w.heap.size + 2, 0, none⟩ (.slice A n c)).setCell ⟨w.heap.size + 2, 1, none⟩ (.slice P m d)) (w.heap.size + 2) (.slice A n c) (.slice P m d) := by
 have hch : Chg (w.heap.size + 2) (w.heap.size + 3) wr ((wr.setCell ⟨w.heap.size + 2, 0, none⟩ (.slice A n c)).setCell ⟨w.heap.size + 2, 1, none⟩ (.slice P m d)) :=
  ((Chg.refl _ _ wr).setCell (p := ⟨w.heap.size + 2, 0, none⟩) (by simp) (by simp) _).setCell (p := ⟨w.heap.size + 2, 1, none⟩) (by simp) (by simp) _
 have hz := h.size
 have hz2 := hch.size
 exact ⟨⟨_, _, _, _, _, _, rfl, (hO.chg hch (.inr (by omega))).wide (by omega) (by omega), h.bel.trans (hch.belowLo (by omega) (by omega))⟩, (h.res.set0 _).set1 _⟩
end
theorem desk_fit {xs : List Int} {yss : List (List Int)} (h : deskOkB xs yss = true) : 0 < xs.length ∧ xs.length ≤ 7 ∧ Fit yss := by
 obtain ⟨h1, h2, h3⟩ := desk_parts h
 have := mapOk_bounds h1
 refine ⟨by omega, by omega, by omega, fun k hk => ?_⟩
 have := mapOk_bounds (h3 k hk)
 omega
set_option maxRecDepth 100000 in
set_option maxHeartbeats 400000 in
theorem do_1 (A P : Option Addr) (n c m d : Nat) (xs : List Int) (yss : List (List Int)) (kd a b : Int) (s : ByteArray) (w : World) (h : RdD w w.heap.size A n c xs P m d yss) (hok : deskOkB xs yss = false) :
    Calls Tryz.prog 42 #[.agg #[.slice A n c, .slice P m d], .agg #[.int .i64 kd, .int .i64 a, .int .i64 b, .string s]] w (DoOut w ([], [], false)) := by
 have hF := DoFr.made w (.slice A n c) (.slice P m d) kd a b s
 have h1 : RdD _ _ A n c xs P m d yss := ⟨h.1.up hF.bel, h.2.up hF.bel⟩
 have K1 := deskOk_c A P n c m d xs yss _ h1
 rw [hok] at K1
 obtain ⟨_, k0, k1, _, _⟩ := id hF.two
 go_enter Tryz.func42, Tryz.ntmps42
 go_wp2_with fail
 generalize (((w.alloc (.cells #[.slice A n c, .slice P m d] 26)).alloc (.cells #[.int .i64 kd, .int .i64 a, .int .i64 b, .string s] 55)).alloc (.cells #[.slice none 0 0, .slice none 0 0] 26)) = w1 at *
 refine K1.mono ?_
 rintro e w2 ⟨rfl, hb2⟩
 have hF2 := hF.up hb2
 have hend := hF2.end_ (OwnD.zero_ w2 (w.heap.size + 3) w2.heap.size hF2.size) (Nat.le_refl _) (Nat.le_refl _) false
 obtain ⟨_, r0, r1, r2, r3⟩ := id hF2.res
 have HE := Lib.hid hend
 clear hend K1 h1 hF k0 k1
 go_wp2_with fail
 (try simp only [Exit.inBlock, Exit.then])
 refine bodyPost_ret (v := .tuple #[.agg #[.slice none 0 0, .slice none 0 0], .bool false]) ?_ rfl HE.out.1
 exact Eq.trans (results_two_tmp (p := 4) (u := 5) rfl _ _ (w.heap.size + 2) _ _ _ rfl HE.out.2 Tryz.underlying26 rfl desk_size) rfl
end
section
open Go.RowKit
theorem gR_take {xss : List (List Int)} {k j : Nat} (h : j < k) : gR (xss.take k) j = gR xss j := by
 unfold gR; simp only [List.getD]; rw [List.getElem?_take_of_lt h]
theorem rdr_take {w : World} {B m d M : Nat} {P : Option Addr} {yss : List (List Int)} (h : RdR w B P m d yss) (hM : M ≤ m) : RdR w B P M d (yss.take M) := by
 have hl := h.len
 have hc := h.cap
 refine ⟨by rw [List.length_take]; omega, by omega, h.max, fun hn => ?_⟩
 obtain ⟨b, off, e, hb, hcell⟩ := h.2.2.2 (by omega)
 refine ⟨b, off, e, hb, fun k hk => ?_⟩
 obtain ⟨A', n', c', h1, h2⟩ := hcell k (by omega)
 exact ⟨A', n', c', h1, by rw [gR_take hk]; exact h2⟩
theorem fit_take {yss : List (List Int)} (h : Fit yss) (M : Nat) : Fit (yss.take M) := by
 refine ⟨by rw [List.length_take]; have := h.1; omega, fun k hk => ?_⟩
 rw [List.length_take] at hk
 rw [gR_take (by omega)]
 exact h.2 k (by omega)
theorem DoFr.below {w wr w' : World} {x y : Value} {kd a b : Int} {s : ByteArray} {B : Nat} (h : DoFr w wr x y kd a b s) (hb : Below B wr w') (hB : w.heap.size + 3 ≤ B) : DoFr w w' x y kd a b s := ⟨h.two.below hb (by omega), h.four.below hb (by omega), h.res.below hb (by omega), h.bel.trans (hb.mono (by omega))⟩
theorem farc {w : World} {b g o : Nat} {u v x : Value} (h : b ≠ g) (hc : w.cell? ⟨b, o, none⟩ = some x) : ((w.setCell ⟨g, 0, none⟩ u).setCell ⟨g, 1, none⟩ v).cell? ⟨b, o, none⟩ = some x := by
 rw [World.cell?_setCell_other _ _ _ _ (by intro e; cases e; exact h rfl), World.cell?_setCell_other _ _ _ _ (by intro e; cases e; exact h rfl)]; exact hc
set_option maxRecDepth 100000 in
set_option maxHeartbeats 400000 in
theorem do_2 (A P : Option Addr) (n c m d : Nat) (xs : List Int) (yss : List (List Int)) (kd a b : Int) (s : ByteArray) (w : World) (h : RdD w w.heap.size A n c xs P m d yss) (hok : deskOkB xs yss = true) (hbare : bareB kd a b s = false) :
    Calls Tryz.prog 42 #[.agg #[.slice A n c, .slice P m d], .agg #[.int .i64 kd, .int .i64 a, .int .i64 b, .string s]] w (DoOut w (xs, yss, false)) := by
 obtain ⟨hx0, hx7, hfit⟩ := desk_fit hok
 have hl := h.1.len
 have hF := DoFr.made w (.slice A n c) (.slice P m d) kd a b s
 have h1 : RdD _ _ A n c xs P m d yss := ⟨h.1.up hF.bel, h.2.up hF.bel⟩
 have K1 := deskOk_c A P n c m d xs yss _ h1
 rw [hok] at K1
 obtain ⟨_, k0, k1, _, _⟩ := id hF.two
 go_enter Tryz.func42, Tryz.ntmps42
 go_wp2_with fail
 generalize (((w.alloc (.cells #[.slice A n c, .slice P m d] 26)).alloc (.cells #[.int .i64 kd, .int .i64 a, .int .i64 b, .string s] 55)).alloc (.cells #[.slice none 0 0, .slice none 0 0] 26)) = w1 at *
 refine K1.mono ?_
 rintro e w2 ⟨rfl, hb2⟩
 have hF2 := hF.up hb2
 have h2 : RdD w2 w2.heap.size A n c xs P m d yss := ⟨h1.1.up hb2, h1.2.up hb2⟩
 obtain ⟨_, k0, k1, _, _⟩ := id hF2.two
 obtain ⟨_, q0, q1, q2, q3⟩ := id hF2.four
 have K2 := bare_c kd a b s w2
 clear K1 h1 hF hb2 h
 go_wp2_with fail
 rw [hbare] at K2
 refine K2.mono ?_
 rintro e w3 ⟨rfl, hb3⟩
 have hF3 := hF2.up hb3
 have h3 : RdD w3 w3.heap.size A n c xs P m d yss := ⟨h2.1.up hb3, h2.2.up hb3⟩
 obtain ⟨_, k0, k1, _, _⟩ := id hF3.two
 obtain ⟨_, q0, q1, q2, q3⟩ := id hF3.four
 clear K2 h2 hF2 hb3
 go_wp2_with fail
 refine (copied_c A P n c m d xs yss _ h3 (by omega) (by omega) hfit).mono ?_
 rintro e w4 ⟨A4, n4, c4, P4, m4, d4, rfl, hO4, hb4⟩
 have hF9 := hF3.up hb4
 have hend := hF9.end_ hO4 hF3.size (Nat.le_refl _) false
 obtain ⟨_, r0, r1, r2, r3⟩ := id hF9.res
 have HE := Lib.hid hend
 clear hend h3 hF3 hb4 hO4
 go_wp2_with fail
 (try simp only [Exit.inBlock, Exit.then])
 refine bodyPost_ret (v := .tuple #[.agg #[.slice A4 n4 c4, .slice P4 m4 d4], .bool false]) ?_ rfl HE.out.1
 exact Eq.trans (results_two_tmp (p := 4) (u := 5) rfl _ _ (w.heap.size + 2) _ _ _ rfl HE.out.2 Tryz.underlying26 rfl desk_size) rfl
set_option maxRecDepth 100000 in
set_option maxHeartbeats 400000 in
theorem do_3 (A P : Option Addr) (n c m d : Nat) (xs : List Int) (yss : List (List Int)) (kd a b : Int) (s : ByteArray) (w : World) (h : RdD w w.heap.size A n c xs P m d yss) (hok : deskOkB xs yss = true) (hbare : bareB kd a b s = true) (hk : kd = 4) (hm : m = 0) :
    Calls Tryz.prog 42 #[.agg #[.slice A n c, .slice P m d], .agg #[.int .i64 kd, .int .i64 a, .int .i64 b, .string s]] w (DoOut w (xs, yss, false)) := by
 subst hk
 subst hm
 obtain ⟨hx0, hx7, hfit⟩ := desk_fit hok
 have hl := h.1.len
 have hF := DoFr.made w (.slice A n c) (.slice P 0 d) 4 a b s
 have h1 : RdD _ _ A n c xs P 0 d yss := ⟨h.1.up hF.bel, h.2.up hF.bel⟩
 have K1 := deskOk_c A P n c 0 d xs yss _ h1
 rw [hok] at K1
 obtain ⟨_, k0, k1, _, _⟩ := id hF.two
 go_enter Tryz.func42, Tryz.ntmps42
 go_wp2_with fail
 generalize (((w.alloc (.cells #[.slice A n c, .slice P 0 d] 26)).alloc (.cells #[.int .i64 4, .int .i64 a, .int .i64 b, .string s] 55)).alloc (.cells #[.slice none 0 0, .slice none 0 0] 26)) = w1 at *
 refine K1.mono ?_
 rintro e w2 ⟨rfl, hb2⟩
 have hF2 := hF.up hb2
 have h2 : RdD w2 w2.heap.size A n c xs P 0 d yss := ⟨h1.1.up hb2, h1.2.up hb2⟩
 obtain ⟨_, k0, k1, _, _⟩ := id hF2.two
 obtain ⟨_, q0, q1, q2, q3⟩ := id hF2.four
 have K2 := bare_c 4 a b s w2
 clear K1 h1 hF hb2 h
 go_wp2_with fail
 rw [hbare] at K2
 refine K2.mono ?_
 rintro e w3 ⟨rfl, hb3⟩
 have hF3 := hF2.up hb3
 have h3 : RdD w3 w3.heap.size A n c xs P 0 d yss := ⟨h2.1.up hb3, h2.2.up hb3⟩
 obtain ⟨_, k0, k1, _, _⟩ := id hF3.two
 obtain ⟨_, q0, q1, q2, q3⟩ := id hF3.four
 clear K2 h2 hF2 hb3
 go_wp2_with fail
 refine (copied_c A P n c 0 d xs yss _ h3 (by omega) (by omega) hfit).mono ?_
 rintro e w4 ⟨A4, n4, c4, P4, m4, d4, rfl, hO4, hb4⟩
 have hF9 := hF3.up hb4
 have hend := hF9.end_ hO4 hF3.size (Nat.le_refl _) false
 obtain ⟨_, r0, r1, r2, r3⟩ := id hF9.res
 have HE := Lib.hid hend
 clear hend h3 hF3 hb4 hO4
 go_wp2_with fail
 (try simp only [Exit.inBlock, Exit.then])
 refine bodyPost_ret (v := .tuple #[.agg #[.slice A4 n4 c4, .slice P4 m4 d4], .bool false]) ?_ rfl HE.out.1
 exact Eq.trans (results_two_tmp (p := 4) (u := 5) rfl _ _ (w.heap.size + 2) _ _ _ rfl HE.out.2 Tryz.underlying26 rfl desk_size) rfl
set_option maxRecDepth 100000 in
set_option maxHeartbeats 400000 in
theorem do_5 (A P : Option Addr) (n c m d : Nat) (xs : List Int) (yss : List (List Int)) (kd a b : Int) (s : ByteArray) (w : World) (h : RdD w w.heap.size A n c xs P m d yss) (hok : deskOkB xs yss = true) (hbare : bareB kd a b s = true) (hs : s.size ≤ 1000000000000) (hk : ¬ kd = 4) (hch : chgI xs kd a b s = []) :
    Calls Tryz.prog 42 #[.agg #[.slice A n c, .slice P m d], .agg #[.int .i64 kd, .int .i64 a, .int .i64 b, .string s]] w (DoOut w (xs, yss, false)) := by
 have hq4 : (kd == 4) = false := by simpa using hk
 obtain ⟨hx0, hx7, hfit⟩ := desk_fit hok
 have hl := h.1.len
 have hF := DoFr.made w (.slice A n c) (.slice P m d) kd a b s
 have h1 : RdD _ _ A n c xs P m d yss := ⟨h.1.up hF.bel, h.2.up hF.bel⟩
 have K1 := deskOk_c A P n c m d xs yss _ h1
 rw [hok] at K1
 obtain ⟨_, k0, k1, _, _⟩ := id hF.two
 go_enter Tryz.func42, Tryz.ntmps42
 go_wp2_with fail
 generalize (((w.alloc (.cells #[.slice A n c, .slice P m d] 26)).alloc (.cells #[.int .i64 kd, .int .i64 a, .int .i64 b, .string s] 55)).alloc (.cells #[.slice none 0 0, .slice none 0 0] 26)) = w1 at *
 refine K1.mono ?_
 rintro e w2 ⟨rfl, hb2⟩
 have hF2 := hF.up hb2
 have h2 : RdD w2 w2.heap.size A n c xs P m d yss := ⟨h1.1.up hb2, h1.2.up hb2⟩
 obtain ⟨_, k0, k1, _, _⟩ := id hF2.two
 obtain ⟨_, q0, q1, q2, q3⟩ := id hF2.four
 have K2 := bare_c kd a b s w2
 clear K1 h1 hF hb2 h
 go_wp2_with fail
 rw [hbare] at K2
 refine K2.mono ?_
 rintro e w3 ⟨rfl, hb3⟩
 have hF3 := hF2.up hb3
 have h3 : RdD w3 w3.heap.size A n c xs P m d yss := ⟨h2.1.up hb3, h2.2.up hb3⟩
 obtain ⟨_, k0, k1, _, _⟩ := id hF3.two
 obtain ⟨_, q0, q1, q2, q3⟩ := id hF3.four
 clear K2 h2 hF2 hb3
 go_wp2_with fail
 obtain ⟨hmp, hm8, _⟩ := desk_parts hok
 refine (changed_c A n c xs kd a b s w3 h3.1 hs hmp).mono ?_
 rintro e w4 ⟨A5, n5, c5, rfl, hI5, hb5, hnil⟩
 have hF4 := hF3.up hb5
 have h4 : RdD w4 w4.heap.size A n c xs P m d yss := ⟨h3.1.up hb5, h3.2.up hb5⟩
 obtain ⟨_, k0, k1, _, _⟩ := id hF4.two
 obtain ⟨_, q0, q1, q2, q3⟩ := id hF4.four
 obtain ⟨rfl, rfl, rfl⟩ := hnil hch
 have hn : (binOp .eql 23 (.slice none 0 0) (.slice none 0 0)).run Tryz.prog w4 = .ok (.bool true) w4 := by
  apply Lib.run_eql_slice_nil
  exact Tryz.underlying23
 clear hb5 hI5 hnil h3 hF3
 go_wp2_with fail
 refine (copied_c A P n c m d xs yss _ h4 (by omega) (by omega) hfit).mono ?_
 rintro e w5 ⟨A4, n4, c4, P4, m4, d4, rfl, hO4, hb4⟩
 have hF9 := hF4.up hb4
 have hend := hF9.end_ hO4 hF4.size (Nat.le_refl _) false
 obtain ⟨_, r0, r1, r2, r3⟩ := id hF9.res
 have HE := Lib.hid hend
 clear hend h4 hF4 hb4 hO4
 go_wp2_with fail
 (try simp only [Exit.inBlock, Exit.then])
 refine bodyPost_ret (v := .tuple #[.agg #[.slice A4 n4 c4, .slice P4 m4 d4], .bool false]) ?_ rfl HE.out.1
 exact Eq.trans (results_two_tmp (p := 4) (u := 5) rfl _ _ (w.heap.size + 2) _ _ _ rfl HE.out.2 Tryz.underlying26 rfl desk_size) rfl
set_option maxRecDepth 100000 in
set_option maxHeartbeats 400000 in
theorem do_6 (A P : Option Addr) (n c m d : Nat) (xs : List Int) (yss : List (List Int)) (kd a b : Int) (s : ByteArray) (w : World) (h : RdD w w.heap.size A n c xs P m d yss) (hok : deskOkB xs yss = true) (hbare : bareB kd a b s = true) (hs : s.size ≤ 1000000000000) (hk : ¬ kd = 4) (hch : ¬ chgI xs kd a b s = []) (hsame : chgI xs kd a b s = xs) :
    Calls Tryz.prog 42 #[.agg #[.slice A n c, .slice P m d], .agg #[.int .i64 kd, .int .i64 a, .int .i64 b, .string s]] w (DoOut w (xs, yss, false)) := by
 have hq4 : (kd == 4) = false := by simpa using hk
 obtain ⟨hx0, hx7, hfit⟩ := desk_fit hok
 have hl := h.1.len
 have hF := DoFr.made w (.slice A n c) (.slice P m d) kd a b s
 have h1 : RdD _ _ A n c xs P m d yss := ⟨h.1.up hF.bel, h.2.up hF.bel⟩
 have K1 := deskOk_c A P n c m d xs yss _ h1
 rw [hok] at K1
 obtain ⟨_, k0, k1, _, _⟩ := id hF.two
 go_enter Tryz.func42, Tryz.ntmps42
 go_wp2_with fail
 generalize (((w.alloc (.cells #[.slice A n c, .slice P m d] 26)).alloc (.cells #[.int .i64 kd, .int .i64 a, .int .i64 b, .string s] 55)).alloc (.cells #[.slice none 0 0, .slice none 0 0] 26)) = w1 at *
 refine K1.mono ?_
 rintro e w2 ⟨rfl, hb2⟩
 have hF2 := hF.up hb2
 have h2 : RdD w2 w2.heap.size A n c xs P m d yss := ⟨h1.1.up hb2, h1.2.up hb2⟩
 obtain ⟨_, k0, k1, _, _⟩ := id hF2.two
 obtain ⟨_, q0, q1, q2, q3⟩ := id hF2.four
 have K2 := bare_c kd a b s w2
 clear K1 h1 hF hb2 h
 go_wp2_with fail
 rw [hbare] at K2
 refine K2.mono ?_
 rintro e w3 ⟨rfl, hb3⟩
 have hF3 := hF2.up hb3
 have h3 : RdD w3 w3.heap.size A n c xs P m d yss := ⟨h2.1.up hb3, h2.2.up hb3⟩
 obtain ⟨_, k0, k1, _, _⟩ := id hF3.two
 obtain ⟨_, q0, q1, q2, q3⟩ := id hF3.four
 clear K2 h2 hF2 hb3
 go_wp2_with fail
 obtain ⟨hmp, hm8, _⟩ := desk_parts hok
 refine (changed_c A n c xs kd a b s w3 h3.1 hs hmp).mono ?_
 rintro e w4 ⟨A5, n5, c5, rfl, hI5, hb5, hnil⟩
 have hF4 := hF3.up hb5
 have h4 : RdD w4 w4.heap.size A n c xs P m d yss := ⟨h3.1.up hb5, h3.2.up hb5⟩
 obtain ⟨_, k0, k1, _, _⟩ := id hF4.two
 obtain ⟨_, q0, q1, q2, q3⟩ := id hF4.four
 have hlen5 := hI5.len
 have hn5 : 0 < n5 := by
  rcases Nat.eq_zero_or_pos n5 with h0 | h0
  · rw [h0] at hlen5; exact absurd (List.length_eq_zero_iff.1 hlen5) hch
  · exact h0
 obtain ⟨g5, rfl⟩ := hI5.some_ hn5
 have hn : (binOp .eql 23 (.slice (some ⟨g5, 0, none⟩) n5 c5) (.slice none 0 0)).run Tryz.prog w4 = .ok (.bool false) w4 := by
  apply Lib.run_eql_slice_nil
  exact Tryz.underlying23
 have KE := eqSl_c _ _ _ _ _ _ _ _ w4 hI5.rd h4.1
 rw [show eqB (chgI xs kd a b s) xs = true from decide_eq_true hsame] at KE
 clear hb5 hnil h3 hF3
 go_wp2_with fail
 refine KE.mono ?_
 rintro e w5 ⟨rfl, k5, rfl⟩
 have hF5 := hF4.dn k5
 have h5 : RdD (w4.drewN k5) (w4.drewN k5).heap.size A n c xs P m d yss := ⟨h4.1.dn k5, h4.2.dn k5⟩
 have hI5' := hI5.dn k5
 obtain ⟨_, k0, k1, _, _⟩ := id hF5.two
 obtain ⟨_, q0, q1, q2, q3⟩ := id hF5.four
 clear KE hn
 go_wp2_with fail
 refine (copied_c A P n c m d xs yss _ h5 (by omega) (by omega) hfit).mono ?_
 rintro e w6 ⟨A4, n4, c4, P4, m4, d4, rfl, hO4, hb4⟩
 have hF6 := hF5.up hb4
 have hend := hF6.end_ hO4 hF5.size (Nat.le_refl _) false
 obtain ⟨_, r0, r1, r2, r3⟩ := id hF6.res
 have HE := Lib.hid hend
 clear hend h5 hF5 hb4 hO4
 go_wp2_with fail
 (try simp only [Exit.inBlock, Exit.then])
 refine bodyPost_ret (v := .tuple #[.agg #[.slice A4 n4 c4, .slice P4 m4 d4], .bool false]) ?_ rfl HE.out.1
 exact Eq.trans (results_two_tmp (p := 4) (u := 5) rfl _ _ (w.heap.size + 2) _ _ _ rfl HE.out.2 Tryz.underlying26 rfl desk_size) rfl
set_option maxRecDepth 100000 in
set_option maxHeartbeats 400000 in
theorem do_4 (A P : Option Addr) (n c m d : Nat) (xs : List Int) (yss : List (List Int)) (kd a b : Int) (s : ByteArray) (w : World) (h : RdD w w.heap.size A n c xs P m d yss) (hok : deskOkB xs yss = true) (hbare : bareB kd a b s = true) (hk : kd = 4) (hm : 0 < m) :
    Calls Tryz.prog 42 #[.agg #[.slice A n c, .slice P m d], .agg #[.int .i64 kd, .int .i64 a, .int .i64 b, .string s]] w (DoOut w (gR yss (m - 1), yss.take (m - 1), true)) := by
 subst hk
 have hfit9 := (desk_fit hok).2.2
 obtain ⟨M, hM⟩ : ∃ M, m = M + 1 := ⟨m - 1, by omega⟩
 have hlm := h.2.len
 have hfk := hfit9.2 M (by omega)
 obtain ⟨b0, off, A1, n1, c1, rfl, hb, hcell0, hrk0⟩ := h.2.at_ (k := M) (by omega)
 have hln := hrk0.len
 have hcp := h.2.cap
 have hmx := h.2.max
 unfold maxLen at hmx
 have e1 : (m : Int) - 1 = (M : Int) := by omega
 have hM0 : (0 : Int) ≤ (M : Int) := Int.natCast_nonneg _
 have hM1 : (M : Int) < (m : Int) := by omega
 have hM3 : ¬ ((M : Int) < 0) := by omega
 have hM2 : (M : Int) ≤ (d : Int) := by omega
 have HM9 : Hid (m = M + 1) := Lib.hid hM
 clear hM
 obtain ⟨hx0, hx7, hfit⟩ := desk_fit hok
 have hl := h.1.len
 have hF := DoFr.made w (.slice A n c) (.slice (some ⟨b0, off, none⟩) m d) 4 a b s
 have h1 : RdD _ _ A n c xs (some ⟨b0, off, none⟩) m d yss := ⟨h.1.up hF.bel, h.2.up hF.bel⟩
 have K1 := deskOk_c A (some ⟨b0, off, none⟩) n c m d xs yss _ h1
 rw [hok] at K1
 obtain ⟨_, k0, k1, _, _⟩ := id hF.two
 go_enter Tryz.func42, Tryz.ntmps42
 go_wp2_with fail
 generalize (((w.alloc (.cells #[.slice A n c, .slice (some ⟨b0, off, none⟩) m d] 26)).alloc (.cells #[.int .i64 4, .int .i64 a, .int .i64 b, .string s] 55)).alloc (.cells #[.slice none 0 0, .slice none 0 0] 26)) = w1 at *
 refine K1.mono ?_
 rintro e w2 ⟨rfl, hb2⟩
 have hF2 := hF.up hb2
 have h2 : RdD w2 w2.heap.size A n c xs (some ⟨b0, off, none⟩) m d yss := ⟨h1.1.up hb2, h1.2.up hb2⟩
 obtain ⟨_, k0, k1, _, _⟩ := id hF2.two
 obtain ⟨_, q0, q1, q2, q3⟩ := id hF2.four
 have K2 := bare_c 4 a b s w2
 have hcell2 := (hF2.bel.cell (p := ⟨b0, off + M, none⟩) hb).trans hcell0
 have hrk2 := (hrk0.below hF2.bel).more hF2.bel.size
 clear K1 h1 hF h
 go_wp2_with fail
 rw [hbare] at K2
 refine K2.mono ?_
 rintro e w3 ⟨rfl, hb3⟩
 have hF3 := hF2.up hb3
 have h3 : RdD w3 w3.heap.size A n c xs (some ⟨b0, off, none⟩) m d yss := ⟨h2.1.up hb3, h2.2.up hb3⟩
 obtain ⟨_, k0, k1, _, _⟩ := id hF3.two
 obtain ⟨_, q0, q1, q2, q3⟩ := id hF3.four
 have hcell3 := (hb3.cell (p := ⟨b0, off + M, none⟩) (by show b0 < w2.heap.size; have := hF2.bel.size; omega)).trans hcell2
 have hrk3 := hrk2.up hb3
 have hz32 := hF2.bel.size
 have hz33 := hb3.size
 clear K2 h2 hF2 hb3 hb2 hcell0 hcell2 hrk0 hrk2
 go_wp2_with fail
 have hF3d := hF3.dn 1
 have hbw0 : b0 < w3.heap.size := by omega
 have hT3 : RdR w3.drew w3.drew.heap.size (some ⟨b0, off, none⟩) M d (yss.take M) := rdr_take (h3.2.dn 1) (by have := HM9.out; omega)
 have hcell3d : w3.drew.cell? ⟨b0, off + M, none⟩ = some (.slice A1 n1 c1) := hcell3
 have hrk3d : Rd w3.drew w3.drew.heap.size A1 n1 c1 (gR yss M) := hrk3.dn 1
 have hft : Fit (yss.take M) := fit_take hfit M
 have k0d : w3.drew.cell? ⟨w.heap.size, 0, none⟩ = some (.slice A n c) := hF3d.two.2.1
 have k1d : w3.drew.cell? ⟨w.heap.size, 1, none⟩ = some (.slice (some ⟨b0, off, none⟩) m d) := hF3d.two.2.2.1
 have hzd : w3.drew.heap.size = w3.heap.size := rfl
 clear hcell3 hrk3
 go_region_held3 (fun w' => w'.cell? ⟨w.heap.size, 0, none⟩ = some (.slice A n c) ∧ w'.cell? ⟨w.heap.size, 1, none⟩ = some (.slice (some ⟨b0, off, none⟩) m d) ∧ w'.cell? ⟨b0, off + M, none⟩ = some (.slice A1 n1 c1))
  (first
   | with_reducible exact ⟨k0d, k1d, hcell3d⟩
   | with_reducible exact ⟨k05, k15, hcell5⟩
   | with_reducible exact ⟨k06, k16, hcell6⟩
   | with_reducible exact KEND.out)
  (first
   | (go_at_call 100; refine (clone_c A1 n1 c1 _ _ hrk3d (by omega) (by omega)).mono ?_; rintro e w5 ⟨A5, c5, rfl, hI5, hb5⟩; have hF5 := hF3d.up hb5; obtain ⟨_, k05, k15, _, _⟩ := id hF5.two; have hcell5 := (hb5.cell (p := ⟨b0, off + M, none⟩) hbw0).trans hcell3d; have hT5 := hT3.up hb5; have hz5 := hb5.size)
   | (go_at_call 101; refine (copiedRows_c (some ⟨b0, off, none⟩) M d (yss.take M) _ hT5 hft).mono ?_; rintro e w6 ⟨P6, d6, rfl, hR6, hb6⟩; have hF6 := hF5.up hb6; obtain ⟨_, k06, k16, _, _⟩ := id hF6.two; have hcell6 := (hb6.cell (p := ⟨b0, off + M, none⟩) (by show b0 < w5.heap.size; omega)).trans hcell5; have hO6 : OwnD w6 w3.drew.heap.size w6.heap.size A5 n1 c5 (gR yss M) P6 M d6 (yss.take M) := ⟨w5.heap.size, hz5, hb6.size, hI5.up hb6, hR6⟩; obtain ⟨_, r0, r1, r2, r3⟩ := id hF6.res; have HE := Lib.hid (hF6.end_ hO6 hF3d.size (Nat.le_refl _) true); have e9 : m - 1 = M := (by have := HM9.out; omega); have KEND := Lib.hid (show (_ ∧ _ ∧ _) from ⟨farc (g := w.heap.size + 1 + 1) (u := .slice A5 n1 c5) (v := .slice P6 M d6) (by omega) k06, farc (g := w.heap.size + 1 + 1) (u := .slice A5 n1 c5) (v := .slice P6 M d6) (by omega) k16, farc (g := w.heap.size + 1 + 1) (u := .slice A5 n1 c5) (v := .slice P6 M d6) (by omega) hcell6⟩)))
 all_goals
  go_wp2_with fail
 (try simp only [Exit.inBlock, Exit.then])
 refine bodyPost_ret (v := .tuple #[.agg #[.slice A5 n1 c5, .slice P6 M d6], .bool true]) ?_ rfl (by rw [e9]; exact HE.out.1)
 exact Eq.trans (results_two_tmp (p := 4) (u := 5) rfl _ _ (w.heap.size + 2) _ _ _ rfl HE.out.2 Tryz.underlying26 rfl desk_size) rfl
set_option maxRecDepth 100000 in
set_option maxHeartbeats 400000 in
theorem do_7 (A P : Option Addr) (n c m d : Nat) (xs : List Int) (yss : List (List Int)) (kd a b : Int) (s : ByteArray) (w : World) (h : RdD w w.heap.size A n c xs P m d yss) (hok : deskOkB xs yss = true) (hbare : bareB kd a b s = true) (hs : s.size ≤ 1000000000000) (hk : ¬ kd = 4) (hch : ¬ chgI xs kd a b s = []) (hsame : ¬ chgI xs kd a b s = xs) (Q : Nat) (hQ : Q = m + 1) (hm : m < 8) :
    Calls Tryz.prog 42 #[.agg #[.slice A n c, .slice P m d], .agg #[.int .i64 kd, .int .i64 a, .int .i64 b, .string s]] w (DoOut w (chgI xs kd a b s, yss ++ [xs], true)) := by
 have hq4 : (kd == 4) = false := by simpa using hk
 have HQ : Hid ((yss ++ [xs]).length = Q) := Lib.hid (by rw [List.length_append, h.2.len, hQ]; rfl)
 have hq8 : ¬ ((8 : Int) < (Q : Int)) := by omega
 have hyl0 : yss.length = m := h.2.len
 clear hQ
 obtain ⟨hx0, hx7, hfit⟩ := desk_fit hok
 have hl := h.1.len
 have hF := DoFr.made w (.slice A n c) (.slice P m d) kd a b s
 have h1 : RdD _ _ A n c xs P m d yss := ⟨h.1.up hF.bel, h.2.up hF.bel⟩
 have K1 := deskOk_c A P n c m d xs yss _ h1
 rw [hok] at K1
 obtain ⟨_, k0, k1, _, _⟩ := id hF.two
 go_enter Tryz.func42, Tryz.ntmps42
 go_wp2_with fail
 generalize (((w.alloc (.cells #[.slice A n c, .slice P m d] 26)).alloc (.cells #[.int .i64 kd, .int .i64 a, .int .i64 b, .string s] 55)).alloc (.cells #[.slice none 0 0, .slice none 0 0] 26)) = w1 at *
 refine K1.mono ?_
 rintro e w2 ⟨rfl, hb2⟩
 have hF2 := hF.up hb2
 have h2 : RdD w2 w2.heap.size A n c xs P m d yss := ⟨h1.1.up hb2, h1.2.up hb2⟩
 obtain ⟨_, k0, k1, _, _⟩ := id hF2.two
 obtain ⟨_, q0, q1, q2, q3⟩ := id hF2.four
 have K2 := bare_c kd a b s w2
 clear K1 h1 hF hb2 h
 go_wp2_with fail
 rw [hbare] at K2
 refine K2.mono ?_
 rintro e w3 ⟨rfl, hb3⟩
 have hF3 := hF2.up hb3
 have h3 : RdD w3 w3.heap.size A n c xs P m d yss := ⟨h2.1.up hb3, h2.2.up hb3⟩
 obtain ⟨_, k0, k1, _, _⟩ := id hF3.two
 obtain ⟨_, q0, q1, q2, q3⟩ := id hF3.four
 clear K2 h2 hF2 hb3
 go_wp2_with fail
 obtain ⟨hmp, hm8, _⟩ := desk_parts hok
 refine (changed_c A n c xs kd a b s w3 h3.1 hs hmp).mono ?_
 rintro e w4 ⟨A5, n5, c5, rfl, hI5, hb5, hnil⟩
 have hF4 := hF3.up hb5
 have h4 : RdD w4 w4.heap.size A n c xs P m d yss := ⟨h3.1.up hb5, h3.2.up hb5⟩
 obtain ⟨_, k0, k1, _, _⟩ := id hF4.two
 obtain ⟨_, q0, q1, q2, q3⟩ := id hF4.four
 have hF3s := hF3.size
 have HZ : Hid (w3.heap.size ≤ w4.heap.size) := Lib.hid hb5.size
 have hlen5 := hI5.len
 have hn5 : 0 < n5 := by
  rcases Nat.eq_zero_or_pos n5 with h0 | h0
  · rw [h0] at hlen5; exact absurd (List.length_eq_zero_iff.1 hlen5) hch
  · exact h0
 obtain ⟨g5, rfl⟩ := hI5.some_ hn5
 have hn : (binOp .eql 23 (.slice (some ⟨g5, 0, none⟩) n5 c5) (.slice none 0 0)).run Tryz.prog w4 = .ok (.bool false) w4 := by
  apply Lib.run_eql_slice_nil
  exact Tryz.underlying23
 have KE := eqSl_c _ _ _ _ _ _ _ _ w4 hI5.rd h4.1
 rw [show eqB (chgI xs kd a b s) xs = false from decide_eq_false hsame] at KE
 clear hb5 hnil h3 hF3
 go_wp2_with fail
 refine KE.mono ?_
 rintro e w5 ⟨rfl, k5, rfl⟩
 have hF5 := hF4.dn k5
 have h5 : RdD (w4.drewN k5) (w4.drewN k5).heap.size A n c xs P m d yss := ⟨h4.1.dn k5, h4.2.dn k5⟩
 have hI5' := hI5.dn k5
 obtain ⟨_, k0, k1, _, _⟩ := id hF5.two
 obtain ⟨_, q0, q1, q2, q3⟩ := id hF5.four
 clear KE hn
 have hI5'' : OwnIn (w4.drewN k5) w3.heap.size (w4.drewN k5).heap.size (some ⟨g5, 0, none⟩) n5 c5 (chgI xs kd a b s) := hI5.dn k5
 have hz5 : w3.heap.size ≤ (w4.drewN k5).heap.size := HZ.out
 clear hI5 hI5' hF4 h4 q0 q1 q2 q3
 generalize w4.drewN k5 = w5 at *
 have hF5d : DoFr w w5.drew (.slice A n c) (.slice P m d) kd a b s := hF5.dn 1
 have h51 : Rd w5.drew w5.drew.heap.size A n c xs := h5.1.dn 1
 have h52 : RdR w5.drew w5.drew.heap.size P m d yss := h5.2.dn 1
 have hI5d : OwnIn w5.drew w3.heap.size w5.drew.heap.size (some ⟨g5, 0, none⟩) n5 c5 (chgI xs kd a b s) := hI5''.dn 1
 have hlo5 : w3.heap.size ≤ w5.drew.heap.size := hz5
 have hn0 : 0 < n := by omega
 have hn7 : n ≤ 1000000000000 := by omega
 have hyl : yss.length ≤ 1000000000 := by omega
 have hzF := hF5d.size
 have k0d : w5.drew.cell? ⟨w.heap.size, 0, none⟩ = some (.slice A n c) := hF5d.two.2.1
 have k1d : w5.drew.cell? ⟨w.heap.size, 1, none⟩ = some (.slice P m d) := hF5d.two.2.2.1
 clear hF5 h5 hI5'' hz5 k0 k1
 go_wp2_with fail
 go_region_held3 (fun w' => w'.cell? ⟨w.heap.size, 0, none⟩ = some (.slice A n c) ∧ w'.cell? ⟨w.heap.size, 1, none⟩ = some (.slice P m d))
  (first
   | with_reducible exact ⟨k0d, k1d⟩
   | with_reducible exact ⟨k06, k16⟩
   | with_reducible exact ⟨k07, k17⟩
   | with_reducible exact ⟨k0a, k1a⟩
   | with_reducible exact ⟨k08, k18⟩)
  (first
   | (go_at_call 101; refine (copiedRows_c P m d yss _ h52 hfit).mono ?_; rintro e w6 ⟨P6, d6, rfl, hR6, hb6⟩; have hF6 := hF5d.up hb6; obtain ⟨_, k06, k16, _, _⟩ := id hF6.two; have h6 := h51.up hb6; have hI6 := hI5d.up hb6; have hz6 := hb6.size)
   | (go_at_call 100; refine (clone_c A n c xs _ h6 hn0 hn7).mono ?_; rintro e w7 ⟨A7, c7, rfl, hI7, hb7⟩; have hF7 := hF6.up hb7; obtain ⟨_, k07, k17, _, _⟩ := id hF7.two; have hz7 := hb7.size; have hbA : Below w7.heap.size w7 (w7.alloc (.cells #[.slice A7 n c7] 23)) := (Below.refl _ _).alloc (Nat.le_refl _) _; have hFA := hF7.up hbA; obtain ⟨_, k0a, k1a, _, _⟩ := id hFA.two; have hRA := (hR6.up hb7).up hbA; have hIA := hI7.up hbA; have hI5A := (hI6.up hb7).up hbA; have hzA := hbA.size; have hcl : (w7.alloc (.cells #[.slice A7 n c7] 23)).cell? ⟨w7.heap.size, 0, none⟩ = some (.slice A7 n c7) := (World.cell?_alloc_at _ _ _ _ rfl).trans rfl)
   | (refine step_app_rs _ (by rfl) _ _ (by rfl) w5.drew.heap.size w6.heap.size w6.heap.size w7.heap.size _ yss (by rfl) hRA w7.heap.size (by rfl) A7 n c7 hcl xs hIA hn0 (Nat.le_refl _) hz6 hzA hyl (by omega) (by omega) ?_; intro v8 w8 hO8 hb8 hz8; have hF8 := hFA.below hb8 hzF; obtain ⟨_, k08, k18, _, _⟩ := id hF8.two; have hI8 := hI5A.below hb8 (Nat.le_refl _); obtain ⟨P8, d8, rfl, hro8⟩ := hO8.form; rw [HQ.out] at hO8 hro8 ⊢))
 all_goals
  have hcp8 := hro8.cap
  have hmx8 := hro8.max
  unfold maxLen at hmx8
  have hz58 : w5.drew.heap.size ≤ w8.heap.size := by omega
  have hO9 : OwnD w8 w3.heap.size w8.heap.size (some ⟨g5, 0, none⟩) n5 c5 (chgI xs kd a b s) P8 Q d8 (yss ++ [xs]) := ⟨w5.drew.heap.size, hlo5, hz58, hI8, hO8⟩
  have hend := hF8.end_ hO9 hF3s (Nat.le_refl _) true
  obtain ⟨_, r0, r1, r2, r3⟩ := id hF8.res
  have HE := Lib.hid hend
  clear hend hO9 hO8 hI8 hF8 hro8 hIA hI5A hFA hRA hcl hb8
  go_wp2_with fail
  (try simp only [Exit.inBlock, Exit.then])
  refine bodyPost_ret (v := .tuple #[.agg #[.slice (some ⟨g5, 0, none⟩) n5 c5, .slice P8 Q d8], .bool true]) ?_ rfl HE.out.1
  exact Eq.trans (results_two_tmp (p := 4) (u := 5) rfl _ _ (w.heap.size + 2) _ _ _ rfl HE.out.2 Tryz.underlying26 rfl desk_size) rfl
set_option maxRecDepth 100000 in
set_option maxHeartbeats 400000 in
theorem do_8 (A P : Option Addr) (n c m d : Nat) (xs : List Int) (yss : List (List Int)) (kd a b : Int) (s : ByteArray) (w : World) (h : RdD w w.heap.size A n c xs P m d yss) (hok : deskOkB xs yss = true) (hbare : bareB kd a b s = true) (hs : s.size ≤ 1000000000000) (hk : ¬ kd = 4) (hch : ¬ chgI xs kd a b s = []) (hsame : ¬ chgI xs kd a b s = xs) (Q : Nat) (hQ : Q = m + 1) (hm : m = 8) :
    Calls Tryz.prog 42 #[.agg #[.slice A n c, .slice P m d], .agg #[.int .i64 kd, .int .i64 a, .int .i64 b, .string s]] w (DoOut w (chgI xs kd a b s, (yss ++ [xs]).drop 1, true)) := by
 have hq4 : (kd == 4) = false := by simpa using hk
 subst hm
 obtain rfl : Q = 9 := by omega
 have HQ : Hid ((yss ++ [xs]).length = 9) := Lib.hid (by rw [List.length_append, h.2.len]; rfl)
 have hyl0 : yss.length = 8 := h.2.len
 clear hQ
 obtain ⟨hx0, hx7, hfit⟩ := desk_fit hok
 have hl := h.1.len
 have hF := DoFr.made w (.slice A n c) (.slice P 8 d) kd a b s
 have h1 : RdD _ _ A n c xs P 8 d yss := ⟨h.1.up hF.bel, h.2.up hF.bel⟩
 have K1 := deskOk_c A P n c 8 d xs yss _ h1
 rw [hok] at K1
 obtain ⟨_, k0, k1, _, _⟩ := id hF.two
 go_enter Tryz.func42, Tryz.ntmps42
 go_wp2_with fail
 generalize (((w.alloc (.cells #[.slice A n c, .slice P 8 d] 26)).alloc (.cells #[.int .i64 kd, .int .i64 a, .int .i64 b, .string s] 55)).alloc (.cells #[.slice none 0 0, .slice none 0 0] 26)) = w1 at *
 refine K1.mono ?_
 rintro e w2 ⟨rfl, hb2⟩
 have hF2 := hF.up hb2
 have h2 : RdD w2 w2.heap.size A n c xs P 8 d yss := ⟨h1.1.up hb2, h1.2.up hb2⟩
 obtain ⟨_, k0, k1, _, _⟩ := id hF2.two
 obtain ⟨_, q0, q1, q2, q3⟩ := id hF2.four
 have K2 := bare_c kd a b s w2
 clear K1 h1 hF hb2 h
 go_wp2_with fail
 rw [hbare] at K2
 refine K2.mono ?_
 rintro e w3 ⟨rfl, hb3⟩
 have hF3 := hF2.up hb3
 have h3 : RdD w3 w3.heap.size A n c xs P 8 d yss := ⟨h2.1.up hb3, h2.2.up hb3⟩
 obtain ⟨_, k0, k1, _, _⟩ := id hF3.two
 obtain ⟨_, q0, q1, q2, q3⟩ := id hF3.four
 clear K2 h2 hF2 hb3
 go_wp2_with fail
 obtain ⟨hmp, hm8, _⟩ := desk_parts hok
 refine (changed_c A n c xs kd a b s w3 h3.1 hs hmp).mono ?_
 rintro e w4 ⟨A5, n5, c5, rfl, hI5, hb5, hnil⟩
 have hF4 := hF3.up hb5
 have h4 : RdD w4 w4.heap.size A n c xs P 8 d yss := ⟨h3.1.up hb5, h3.2.up hb5⟩
 obtain ⟨_, k0, k1, _, _⟩ := id hF4.two
 obtain ⟨_, q0, q1, q2, q3⟩ := id hF4.four
 have hF3s := hF3.size
 have HZ : Hid (w3.heap.size ≤ w4.heap.size) := Lib.hid hb5.size
 have hlen5 := hI5.len
 have hn5 : 0 < n5 := by
  rcases Nat.eq_zero_or_pos n5 with h0 | h0
  · rw [h0] at hlen5; exact absurd (List.length_eq_zero_iff.1 hlen5) hch
  · exact h0
 obtain ⟨g5, rfl⟩ := hI5.some_ hn5
 have hn : (binOp .eql 23 (.slice (some ⟨g5, 0, none⟩) n5 c5) (.slice none 0 0)).run Tryz.prog w4 = .ok (.bool false) w4 := by
  apply Lib.run_eql_slice_nil
  exact Tryz.underlying23
 have KE := eqSl_c _ _ _ _ _ _ _ _ w4 hI5.rd h4.1
 rw [show eqB (chgI xs kd a b s) xs = false from decide_eq_false hsame] at KE
 clear hb5 hnil h3 hF3
 go_wp2_with fail
 refine KE.mono ?_
 rintro e w5 ⟨rfl, k5, rfl⟩
 have hF5 := hF4.dn k5
 have h5 : RdD (w4.drewN k5) (w4.drewN k5).heap.size A n c xs P 8 d yss := ⟨h4.1.dn k5, h4.2.dn k5⟩
 have hI5' := hI5.dn k5
 obtain ⟨_, k0, k1, _, _⟩ := id hF5.two
 obtain ⟨_, q0, q1, q2, q3⟩ := id hF5.four
 clear KE hn
 have hI5'' : OwnIn (w4.drewN k5) w3.heap.size (w4.drewN k5).heap.size (some ⟨g5, 0, none⟩) n5 c5 (chgI xs kd a b s) := hI5.dn k5
 have hz5 : w3.heap.size ≤ (w4.drewN k5).heap.size := HZ.out
 clear hI5 hI5' hF4 h4 q0 q1 q2 q3
 generalize w4.drewN k5 = w5 at *
 have hF5d : DoFr w w5.drew (.slice A n c) (.slice P 8 d) kd a b s := hF5.dn 1
 have h51 : Rd w5.drew w5.drew.heap.size A n c xs := h5.1.dn 1
 have h52 : RdR w5.drew w5.drew.heap.size P 8 d yss := h5.2.dn 1
 have hI5d : OwnIn w5.drew w3.heap.size w5.drew.heap.size (some ⟨g5, 0, none⟩) n5 c5 (chgI xs kd a b s) := hI5''.dn 1
 have hlo5 : w3.heap.size ≤ w5.drew.heap.size := hz5
 have hn0 : 0 < n := by omega
 have hn7 : n ≤ 1000000000000 := by omega
 have hyl : yss.length ≤ 1000000000 := by omega
 have hzF := hF5d.size
 have k0d : w5.drew.cell? ⟨w.heap.size, 0, none⟩ = some (.slice A n c) := hF5d.two.2.1
 have k1d : w5.drew.cell? ⟨w.heap.size, 1, none⟩ = some (.slice P 8 d) := hF5d.two.2.2.1
 clear hF5 h5 hI5'' hz5 k0 k1
 go_wp2_with fail
 go_region_held3 (fun w' => w'.cell? ⟨w.heap.size, 0, none⟩ = some (.slice A n c) ∧ w'.cell? ⟨w.heap.size, 1, none⟩ = some (.slice P 8 d))
  (first
   | with_reducible exact ⟨k0d, k1d⟩
   | with_reducible exact ⟨k06, k16⟩
   | with_reducible exact ⟨k07, k17⟩
   | with_reducible exact ⟨k0a, k1a⟩
   | with_reducible exact ⟨k08, k18⟩)
  (first
   | (go_at_call 101; refine (copiedRows_c P 8 d yss _ h52 hfit).mono ?_; rintro e w6 ⟨P6, d6, rfl, hR6, hb6⟩; have hF6 := hF5d.up hb6; obtain ⟨_, k06, k16, _, _⟩ := id hF6.two; have h6 := h51.up hb6; have hI6 := hI5d.up hb6; have hz6 := hb6.size)
   | (go_at_call 100; refine (clone_c A n c xs _ h6 hn0 hn7).mono ?_; rintro e w7 ⟨A7, c7, rfl, hI7, hb7⟩; have hF7 := hF6.up hb7; obtain ⟨_, k07, k17, _, _⟩ := id hF7.two; have hz7 := hb7.size; have hbA : Below w7.heap.size w7 (w7.alloc (.cells #[.slice A7 n c7] 23)) := (Below.refl _ _).alloc (Nat.le_refl _) _; have hFA := hF7.up hbA; obtain ⟨_, k0a, k1a, _, _⟩ := id hFA.two; have hRA := (hR6.up hb7).up hbA; have hIA := hI7.up hbA; have hI5A := (hI6.up hb7).up hbA; have hzA := hbA.size; have hcl : (w7.alloc (.cells #[.slice A7 n c7] 23)).cell? ⟨w7.heap.size, 0, none⟩ = some (.slice A7 n c7) := (World.cell?_alloc_at _ _ _ _ rfl).trans rfl)
   | (refine step_app_rs _ (by rfl) _ _ (by rfl) w5.drew.heap.size w6.heap.size w6.heap.size w7.heap.size _ yss (by rfl) hRA w7.heap.size (by rfl) A7 n c7 hcl xs hIA hn0 (Nat.le_refl _) hz6 hzA hyl (by omega) (by omega) ?_; intro v8 w8 hO8 hb8 hz8; have hF8 := hFA.below hb8 hzF; obtain ⟨_, k08, k18, _, _⟩ := id hF8.two; have hI8 := hI5A.below hb8 (Nat.le_refl _); obtain ⟨P8, d8, rfl, hro8⟩ := hO8.form; rw [HQ.out] at hO8 hro8 ⊢))
 all_goals
  have hcp8 := hro8.cap
  have hmx8 := hro8.max
  unfold maxLen at hmx8
  have hz58 : w5.drew.heap.size ≤ w8.heap.size := by omega
  have KD := delete_c P8 d8 _ _ _ _ hO8 (by rw [HQ.out])
  go_wp2_with fail
  refine KD.mono ?_
  rintro e w9 ⟨rfl, hO9, hc9⟩
  have hF9 := hF8.below (hc9.below (by omega)) hzF
  have hI9 := hI8.chg hc9 (.inl (Nat.le_refl _))
  have hz9 := hc9.size
  have hO10 : OwnD w9 w3.heap.size w8.heap.size (some ⟨g5, 0, none⟩) n5 c5 (chgI xs kd a b s) P8 8 d8 ((yss ++ [xs]).drop 1) := ⟨w5.drew.heap.size, hlo5, hz58, hI9, hO9⟩
  have hend := hF9.end_ hO10 hF3s hz9 true
  obtain ⟨_, r0, r1, r2, r3⟩ := id hF9.res
  have HE := Lib.hid hend
  clear hend hO9 hO8 hI8 hF8 hro8 hIA hI5A hFA hRA hcl hb8 hO10 hI9 hF9 KD
  go_wp2_with fail
  (try simp only [Exit.inBlock, Exit.then])
  refine bodyPost_ret (v := .tuple #[.agg #[.slice (some ⟨g5, 0, none⟩) n5 c5, .slice P8 8 d8], .bool true]) ?_ rfl HE.out.1
  exact Eq.trans (results_two_tmp (p := 4) (u := 5) rfl _ _ (w.heap.size + 2) _ _ _ rfl HE.out.2 Tryz.underlying26 rfl desk_size) rfl
end
section
open Go.RowKit
theorem bare_4x {a b : Int} {s : ByteArray} (h : bareB 4 a b s = true) : a = 0 ∧ b = 0 ∧ s = ⟨#[]⟩ := by
 unfold bareB at h
 simp only [Bool.and_eq_true, Bool.or_eq_true, beq_iff_eq] at h
 obtain ⟨⟨h1, h2⟩, h3⟩ := h
 refine ⟨by omega, by omega, ?_⟩
 rcases h3 with h3 | h3
 · exact emp_iff.1 h3
 · omega
theorem back_bare {yss : List (List Int)} {kd a b : Int} {s : ByteArray} (h : backB yss kd a b s = true) : bareB kd a b s = true := by
 obtain ⟨rfl, rfl, rfl, rfl, _⟩ := back_iff.1 h
 rfl
theorem back_no {yss : List (List Int)} {kd a b : Int} {s : ByteArray} (h : ¬ kd = 4) : backB yss kd a b s = false := by
 rcases hb : backB yss kd a b s with _ | _
 · rfl
 · exact absurd (back_iff.1 hb).1 h
theorem past_lt {xs : List Int} {yss : List (List Int)} (h : yss.length < 8) : pastX xs yss = yss ++ [xs] := by unfold pastX; rw [if_pos h]
theorem past_ge {xs : List Int} {yss : List (List Int)} (h : ¬ yss.length < 8) : pastX xs yss = (yss ++ [xs]).drop 1 := by unfold pastX; rw [if_neg h]
theorem deskDo_c (A P : Option Addr) (n c m d : Nat) (xs : List Int) (yss : List (List Int)) (kd a b : Int) (s : ByteArray) (w : World) (h : RdD w w.heap.size A n c xs P m d yss) (hs : s.size ≤ 1000000000000) :
    Calls Tryz.prog 42 #[.agg #[.slice A n c, .slice P m d], .agg #[.int .i64 kd, .int .i64 a, .int .i64 b, .string s]] w (DoOut w (doX xs yss kd a b s)) := by
 rcases hok : deskOkB xs yss with _ | _
 · rw [do_no hok]; exact do_1 A P n c m d xs yss kd a b s w h hok
 have hl := h.2.len
 rcases hb : bareB kd a b s with _ | _
 · have hk : backB yss kd a b s = false := by
    rcases hk : backB yss kd a b s with _ | _
    · rfl
    · rw [back_bare hk] at hb; cases hb
   rw [do_stay hok hk (stay_nil (made_not hb))]
   exact do_2 A P n c m d xs yss kd a b s w h hok hb
 by_cases hk : kd = 4
 · have h4 := hb
   rw [hk] at h4
   obtain ⟨ha, hb0, hs0⟩ := bare_4x h4
   by_cases hm : m = 0
   · have hy : yss = [] := List.length_eq_zero_iff.1 (by omega)
     have hbk : backB yss kd a b s = false := by
      rcases hbk : backB yss kd a b s with _ | _
      · rfl
      · exact absurd hy (back_iff.1 hbk).2.2.2.2
     rw [do_stay hok hbk (stay_nil (bare_4 hk))]
     exact do_3 A P n c m d xs yss kd a b s w h hok hb hk hm
   · have hy : yss ≠ [] := by intro e; rw [e] at hl; simp at hl; omega
     rw [do_back hok (back_iff.2 ⟨hk, ha, hb0, hs0, hy⟩), hl]
     exact do_4 A P n c m d xs yss kd a b s w h hok hb hk (by omega)
 · have hbk := back_no (yss := yss) (a := a) (b := b) (s := s) hk
   have hmd := made_bare (xs := xs) hb
   by_cases hch : chgI xs kd a b s = []
   · rw [do_stay hok hbk (stay_nil (hmd.trans hch))]
     exact do_5 A P n c m d xs yss kd a b s w h hok hb hs hk hch
   by_cases hsame : chgI xs kd a b s = xs
   · rw [do_stay hok hbk (stay_same (hmd.trans hsame))]
     exact do_6 A P n c m d xs yss kd a b s w h hok hb hs hk hch hsame
   have h8 := (desk_parts hok).2.1
   rw [do_go hok hbk (stay_not (by rw [hmd]; exact hch) (by rw [hmd]; exact hsame)), hmd]
   by_cases h7 : m < 8
   · rw [past_lt (by omega)]
     exact do_7 A P n c m d xs yss kd a b s w h hok hb hs hk hch hsame _ rfl h7
   · rw [past_ge (by omega)]
     exact do_8 A P n c m d xs yss kd a b s w h hok hb hs hk hch hsame _ rfl (by omega)
end
end Go.Proofs.YtoinlkdmfclnbaaGreatDoor
