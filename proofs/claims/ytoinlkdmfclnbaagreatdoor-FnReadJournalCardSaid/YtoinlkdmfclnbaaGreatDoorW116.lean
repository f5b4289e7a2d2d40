/- Walk: ReadDeed of the program. -/
import Derived.Test.YtoinlkdmfclnbaaGreatDoorW111
import Derived.Test.YtoinlkdmfclnbaaGreatDoorV16
import Derived.Test.YtoinlkdmfclnbaaGreatDoorV18
namespace Go.Proofs.YtoinlkdmfclnbaaGreatDoor
set_option linter.unusedVariables false
open Go.RowKit

/-- what the listed and the library's variables hold -/
structure Glo (w : World) : Prop where
  six : 6 ≤ w.heap.size
  tab : Tb w
  max : ∃ m, w.cell? ⟨0, 0, none⟩ = some (.int .i64 m)
  syn : ∃ ev, w.cell? ⟨1, 0, none⟩ = some ev ∧ (ev = .nilIface ∨ ∃ te pe, ev = .iface te pe)
  rng : ∃ ev, w.cell? ⟨2, 0, none⟩ = some ev ∧ (ev = .nilIface ∨ ∃ te pe, ev = .iface te pe)
theorem Glo.below {w w' : World} {B : Nat} (h : Glo w) (hb : Below B w w') (hB : 6 ≤ B) : Glo w' := by
  have hk : ∀ g, g < 6 → w'.cell? ⟨g, 0, none⟩ = w.cell? ⟨g, 0, none⟩ := fun g hg => hb.cell (p := ⟨g, 0, none⟩) (by show g < B; omega)
  obtain ⟨m, hm⟩ := h.max
  obtain ⟨e1, h1, k1⟩ := h.syn
  obtain ⟨e2, h2, k2⟩ := h.rng
  exact ⟨Nat.le_trans h.six hb.size, h.tab.below hb hB, ⟨m, (hk _ (by decide)).trans hm⟩, ⟨e1, (hk _ (by decide)).trans h1, k1⟩, ⟨e2, (hk _ (by decide)).trans h2, k2⟩⟩
theorem Glo.up {w w' : World} (h : Glo w) (hb : Below w.heap.size w w') : Glo w' := h.below hb h.six
theorem strClone_c (s : ByteArray) (w : World) (hs : s.size ≤ 281474976710656) :
    Calls Tryz.prog 98 #[.string s] w fun e w' => e = .returned (.string s) ∧ Below w.heap.size w w' := by
  go_enter Tryz.func98, Tryz.ntmps98
  go_wp2_with fail
  refine (stringslite_Clone s w hs).mono ?_
  rintro e w1 ⟨rfl, hb1⟩
  go_wp2_with fail
  go_ret
  exact ⟨rfl, hb1⟩
theorem cutX (l : List UInt8) : ∃ u v b, Lib.cut l [32] = (u, v, b) ∧ u.length + v.length ≤ l.length := by
  rcases spl_any 32 l with ⟨_, _, h⟩ | ⟨u, v, _, rfl, _, h⟩
  · exact ⟨l, [], false, h, by simp⟩
  · exact ⟨u, v, true, h, by rw [spl_len]; omega⟩
-- QF
set_option maxRecDepth 100000 in
set_option maxHeartbeats 800000 in
theorem rdd_other (s : ByteArray) (w : World) (hsz : s.size ≤ 2000000) (hg : Glo w) (u v : List UInt8) (b : Bool) (hc : Lib.cut s.data.toList [32] = (u, v, b)) (h1 : u ≠ wLead) (h2 : u ≠ wBehind) (h3 : u ≠ wPower) (h4 : u ≠ wName) (h5 : u ≠ wBack) :
    Calls Tryz.prog 41 #[.string s] w (RdOut ((0, 0, 0, []), false) w) := by
  have q1 : (u == [108, 101, 97, 100]) = false := beqF h1
  have q2 : (u == [98, 101, 104, 105, 110, 100]) = false := beqF h2
  have q3 : (u == [112, 111, 119, 101, 114]) = false := beqF h3
  have q4 : (u == [110, 97, 109, 101]) = false := beqF h4
  have q5 : (u == [98, 97, 99, 107]) = false := beqF h5
  clear h1 h2 h3 h4 h5
  have hR1 := FourF.made w 55 0 0 0 ⟨#[]⟩
  have hb1 := below_new w (.cells #[.int .i64 0, .int .i64 0, .int .i64 0, .string ⟨#[]⟩] 55)
  have hg1 := hg.up hb1
  obtain ⟨m, hm⟩ := hg1.max
  have K1 := strings_Cut s ⟨#[32]⟩ m _ (by omega) hm
  rw [hc] at K1
  simp only [] at K1
  clear hm hc
  go_enter Tryz.func41, Tryz.ntmps41
  go_wp2_with fail
  generalize w.alloc (.cells #[.int .i64 0, .int .i64 0, .int .i64 0, .string ⟨#[]⟩] 55) = w1 at *
  refine K1.mono ?_
  rintro e w2 ⟨rfl, nd, rfl⟩
  have hz1 := hR1.1.1
  have hbA := below_new (w1.drewN nd) (.cells #[.int .i64 0, .int .i64 0, .int .i64 0, .string ⟨#[]⟩] 55)
  have hB2 := bt (bd hb1 nd) hbA
  have hR2 : FourF ((w1.drewN nd).alloc (.cells #[.int .i64 0, .int .i64 0, .int .i64 0, .string ⟨#[]⟩] 55)) w.heap.size 0 0 0 ⟨#[]⟩ := FourF.up (w := w1.drewN nd) hR1 hbA
  have hD2 : FourF ((w1.drewN nd).alloc (.cells #[.int .i64 0, .int .i64 0, .int .i64 0, .string ⟨#[]⟩] 55)) w1.heap.size 0 0 0 ⟨#[]⟩ := FourF.made (w1.drewN nd) 55 0 0 0 ⟨#[]⟩
  have hg2 : Glo ((w1.drewN nd).alloc (.cells #[.int .i64 0, .int .i64 0, .int .i64 0, .string ⟨#[]⟩] 55)) := hg.up hB2
  clear K1 hR1 hb1 hg1 hbA hg
  obtain ⟨⟨_, r0, r1, r2, r3⟩, f0, f1, f2, f3⟩ := id hR2
  obtain ⟨⟨_, d0, d1, d2, d3⟩, e0, e1, e2, e3⟩ := id hD2
  have hend := (((hB2.setCell (p := ⟨w.heap.size, 0, none⟩) (Nat.le_refl _) (.int .i64 0)).setCell (p := ⟨w.heap.size, 1, none⟩) (Nat.le_refl _) (.int .i64 0)).setCell (p := ⟨w.heap.size, 2, none⟩) (Nat.le_refl _) (.int .i64 0)).setCell (p := ⟨w.heap.size, 3, none⟩) (Nat.le_refl _) (.string ⟨#[]⟩)
  have HT := Lib.hid (hR2.set 0 0 0 ⟨#[]⟩)
  have HE := Lib.hid hend
  clear hend hR2 hD2 hg2 hB2
  go_wp2_with fail
  (try simp only [Exit.inBlock, Exit.then])
  refine bodyPost_ret (v := .tuple #[.agg #[.int .i64 0, .int .i64 0, .int .i64 0, .string ⟨#[]⟩], .bool false]) ?_ rfl ⟨rfl, HE.out⟩
  exact Eq.trans (results_four_tmp (p := 2) (r := 3) rfl _ _ w.heap.size _ _ _ _ _ rfl HT.out.1.2 Tryz.underlying55 rfl deed_size) rfl
set_option maxRecDepth 100000 in
set_option maxHeartbeats 800000 in
theorem rdd_back (s : ByteArray) (w : World) (hsz : s.size ≤ 2000000) (hg : Glo w) (v : List UInt8) (b : Bool) (hc : Lib.cut s.data.toList [32] = ([98, 97, 99, 107], v, b)) (r : Dl × Bool) (hr1 : dtL 4 0 0 [] = s.data.toList → r = ((4, 0, 0, []), true)) (hr2 : ¬ dtL 4 0 0 [] = s.data.toList → r = ((0, 0, 0, []), false)) :
    Calls Tryz.prog 41 #[.string s] w (RdOut r w) := by
  have hg0 := hg
  have hR1 := FourF.made w 55 0 0 0 ⟨#[]⟩
  have hb1 := below_new w (.cells #[.int .i64 0, .int .i64 0, .int .i64 0, .string ⟨#[]⟩] 55)
  have hg1 := hg.up hb1
  obtain ⟨m, hm⟩ := hg1.max
  have K1 := strings_Cut s ⟨#[32]⟩ m _ (by omega) hm
  rw [hc] at K1
  simp only [] at K1
  clear hm hc
  go_enter Tryz.func41, Tryz.ntmps41
  go_wp2_with fail
  generalize w.alloc (.cells #[.int .i64 0, .int .i64 0, .int .i64 0, .string ⟨#[]⟩] 55) = w1 at *
  refine K1.mono ?_
  rintro e w2 ⟨rfl, nd, rfl⟩
  have hz1 := hR1.1.1
  have hbA := below_new (w1.drewN nd) (.cells #[.int .i64 0, .int .i64 0, .int .i64 0, .string ⟨#[]⟩] 55)
  have hB2 := bt (bd hb1 nd) hbA
  have hR2 : FourF ((w1.drewN nd).alloc (.cells #[.int .i64 0, .int .i64 0, .int .i64 0, .string ⟨#[]⟩] 55)) w.heap.size 0 0 0 ⟨#[]⟩ := FourF.up (w := w1.drewN nd) hR1 hbA
  have hD2 : FourF ((w1.drewN nd).alloc (.cells #[.int .i64 0, .int .i64 0, .int .i64 0, .string ⟨#[]⟩] 55)) w1.heap.size 0 0 0 ⟨#[]⟩ := FourF.made (w1.drewN nd) 55 0 0 0 ⟨#[]⟩
  have hg2 : Glo ((w1.drewN nd).alloc (.cells #[.int .i64 0, .int .i64 0, .int .i64 0, .string ⟨#[]⟩] 55)) := hg.up hB2
  clear K1 hR1 hb1 hg1 hbA hg
  obtain ⟨⟨_, r0, r1, r2, r3⟩, f0, f1, f2, f3⟩ := id hR2
  obtain ⟨⟨_, d0, d1, d2, d3⟩, e0, e1, e2, e3⟩ := id hD2
  have hch : Chg w1.heap.size (w1.heap.size + 1) (((w1.drewN nd).alloc (.cells #[.int .i64 0, .int .i64 0, .int .i64 0, .string ⟨#[]⟩] 55))) (((((((w1.drewN nd).alloc (.cells #[.int .i64 0, .int .i64 0, .int .i64 0, .string ⟨#[]⟩] 55))).setCell ⟨w1.heap.size, 0, none⟩ (.int .i64 4)).setCell ⟨w1.heap.size, 1, none⟩ (.int .i64 0)).setCell ⟨w1.heap.size, 2, none⟩ (.int .i64 0)).setCell ⟨w1.heap.size, 3, none⟩ (.string ⟨#[]⟩)) :=
    ((((((Chg.refl _ _ _).setCell (p := ⟨w1.heap.size, 0, none⟩) (Nat.le_refl _) (Nat.lt_succ_self _) _).setCell (p := ⟨w1.heap.size, 1, none⟩) (Nat.le_refl _) (Nat.lt_succ_self _) _).setCell (p := ⟨w1.heap.size, 2, none⟩) (Nat.le_refl _) (Nat.lt_succ_self _) _).setCell (p := ⟨w1.heap.size, 3, none⟩) (Nat.le_refl _) (Nat.lt_succ_self _) _))
  have hD8 : FourF (((((((w1.drewN nd).alloc (.cells #[.int .i64 0, .int .i64 0, .int .i64 0, .string ⟨#[]⟩] 55))).setCell ⟨w1.heap.size, 0, none⟩ (.int .i64 4)).setCell ⟨w1.heap.size, 1, none⟩ (.int .i64 0)).setCell ⟨w1.heap.size, 2, none⟩ (.int .i64 0)).setCell ⟨w1.heap.size, 3, none⟩ (.string ⟨#[]⟩)) w1.heap.size 4 0 0 ⟨#[]⟩ := (hD2.set 4 0 0 ⟨#[]⟩)
  have hR8 := hR2.chg hch (.inl (by omega))
  have hB8 : Below w.heap.size w (((((((w1.drewN nd).alloc (.cells #[.int .i64 0, .int .i64 0, .int .i64 0, .string ⟨#[]⟩] 55))).setCell ⟨w1.heap.size, 0, none⟩ (.int .i64 4)).setCell ⟨w1.heap.size, 1, none⟩ (.int .i64 0)).setCell ⟨w1.heap.size, 2, none⟩ (.int .i64 0)).setCell ⟨w1.heap.size, 3, none⟩ (.string ⟨#[]⟩)) := hB2.trans (hch.belowLo (B := w.heap.size) (by omega) hB2.size)
  have hg8 := hg0.up hB8
  have HG8 := Lib.hid hg8
  have HR8 := Lib.hid hR8
  have HD8 := Lib.hid hD8
  have HB8 := Lib.hid hB8
  (try clear d0 d1 d2 d3 e0 e1 e2 e3 r0 r1 r2 r3 f0 f1 f2 f3)
  obtain ⟨⟨_, d0, d1, d2, d3⟩, e0, e1, e2, e3⟩ := id hD2
  obtain ⟨⟨_, g0, g1, g2, g3⟩, _, _, _, _⟩ := id hD8
  clear hch hR8 hD8 hB8 hg8 hR2 hD2 hB2
  go_wp2_with fail
  (try clear d0 d1 d2 d3 e0 e1 e2 e3 g0 g1 g2 g3)
  generalize (((((((w1.drewN nd).alloc (.cells #[.int .i64 0, .int .i64 0, .int .i64 0, .string ⟨#[]⟩] 55))).setCell ⟨w1.heap.size, 0, none⟩ (.int .i64 4)).setCell ⟨w1.heap.size, 1, none⟩ (.int .i64 0)).setCell ⟨w1.heap.size, 2, none⟩ (.int .i64 0)).setCell ⟨w1.heap.size, 3, none⟩ (.string ⟨#[]⟩)) = w8 at *
  refine (deedText_c 4 0 0 ⟨#[]⟩ _ (Nat.zero_le _) HG8.out.tab HG8.out.six).mono ?_
  rintro e w9 ⟨rfl, hb9⟩
  have hR9 := HR8.out.up hb9
  have hD9 := HD8.out.up hb9
  have hB9 := bt HB8.out hb9
  clear hb9 HG8 HR8 HD8 HB8
  obtain ⟨⟨_, r0, r1, r2, r3⟩, f0, f1, f2, f3⟩ := id hR9
  obtain ⟨⟨_, d0, d1, d2, d3⟩, e0, e1, e2, e3⟩ := id hD9
  by_cases hE : dtL 4 0 0 [] = s.data.toList
  · have hT : dtX 4 0 0 ⟨#[]⟩ = s := by unfold dtX; rw [show (⟨#[]⟩ : ByteArray).data.toList = [] from bl_list [], hE, bl_of]
    have HV := Lib.hid (hr1 hE)
    rw [hT]
    clear hT hE hr1 hr2
    have hend := (((hB9.setCell (p := ⟨w.heap.size, 0, none⟩) (Nat.le_refl _) (.int .i64 4)).setCell (p := ⟨w.heap.size, 1, none⟩) (Nat.le_refl _) (.int .i64 0)).setCell (p := ⟨w.heap.size, 2, none⟩) (Nat.le_refl _) (.int .i64 0)).setCell (p := ⟨w.heap.size, 3, none⟩) (Nat.le_refl _) (.string ⟨#[]⟩)
    have HT := Lib.hid (hR9.set 4 0 0 ⟨#[]⟩)
    have HE := Lib.hid hend
    clear hend hR9 hD9 hB9
    go_wp2_with fail
    (try simp only [Exit.inBlock, Exit.then])
    refine bodyPost_ret (v := .tuple #[.agg #[.int .i64 4, .int .i64 0, .int .i64 0, .string ⟨#[]⟩], .bool true]) ?_ rfl ⟨by rw [HV.out]; rfl, HE.out⟩
    exact Eq.trans (results_four_tmp (p := 2) (r := 3) rfl _ _ w.heap.size _ _ _ _ _ rfl HT.out.1.2 Tryz.underlying55 rfl deed_size) rfl
  · have hT : ¬ dtX 4 0 0 ⟨#[]⟩ = s := fun h => hE (by rw [← h]; unfold dtX; rw [bl_list, show (⟨#[]⟩ : ByteArray).data.toList = [] from bl_list []])
    have HV := Lib.hid (hr2 hE)
    generalize dtX 4 0 0 ⟨#[]⟩ = T at *
    have qT : (T.toList == s.toList) = false := beqF (fun h => hT (by rw [← bl_of T, ← bl_of s, ← ByteArray.toList_eq, ← ByteArray.toList_eq, h]))
    have qN : (T.toList != s.toList) = true := by unfold bne; rw [qT]; rfl
    clear hT hE hr1 hr2
    have hend := (((hB9.setCell (p := ⟨w.heap.size, 0, none⟩) (Nat.le_refl _) (.int .i64 0)).setCell (p := ⟨w.heap.size, 1, none⟩) (Nat.le_refl _) (.int .i64 0)).setCell (p := ⟨w.heap.size, 2, none⟩) (Nat.le_refl _) (.int .i64 0)).setCell (p := ⟨w.heap.size, 3, none⟩) (Nat.le_refl _) (.string ⟨#[]⟩)
    have HT := Lib.hid (hR9.set 0 0 0 ⟨#[]⟩)
    have HE := Lib.hid hend
    clear hend hR9 hD9 hB9
    go_wp2_with fail
    (try simp only [Exit.inBlock, Exit.then])
    refine bodyPost_ret (v := .tuple #[.agg #[.int .i64 0, .int .i64 0, .int .i64 0, .string ⟨#[]⟩], .bool false]) ?_ rfl ⟨by rw [HV.out]; rfl, HE.out⟩
    exact Eq.trans (results_four_tmp (p := 2) (r := 3) rfl _ _ w.heap.size _ _ _ _ _ rfl HT.out.1.2 Tryz.underlying55 rfl deed_size) rfl
set_option maxRecDepth 100000 in
set_option maxHeartbeats 800000 in
theorem rdd_behind (s : ByteArray) (w : World) (hsz : s.size ≤ 2000000) (hg : Glo w) (v : List UInt8) (b : Bool) (hv : v.length ≤ 2000000) (hc : Lib.cut s.data.toList [32] = ([98, 101, 104, 105, 110, 100], v, b)) (r : Dl × Bool) (hr1 : dtL 1 0 0 v = s.data.toList → r = ((1, 0, 0, v), true)) (hr2 : ¬ dtL 1 0 0 v = s.data.toList → r = ((0, 0, 0, []), false)) :
    Calls Tryz.prog 41 #[.string s] w (RdOut r w) := by
  have hg0 := hg
  have hR1 := FourF.made w 55 0 0 0 ⟨#[]⟩
  have hb1 := below_new w (.cells #[.int .i64 0, .int .i64 0, .int .i64 0, .string ⟨#[]⟩] 55)
  have hg1 := hg.up hb1
  obtain ⟨m, hm⟩ := hg1.max
  have K1 := strings_Cut s ⟨#[32]⟩ m _ (by omega) hm
  rw [hc] at K1
  simp only [] at K1
  clear hm hc
  go_enter Tryz.func41, Tryz.ntmps41
  go_wp2_with fail
  generalize w.alloc (.cells #[.int .i64 0, .int .i64 0, .int .i64 0, .string ⟨#[]⟩] 55) = w1 at *
  refine K1.mono ?_
  rintro e w2 ⟨rfl, nd, rfl⟩
  have hz1 := hR1.1.1
  have hbA := below_new (w1.drewN nd) (.cells #[.int .i64 0, .int .i64 0, .int .i64 0, .string ⟨#[]⟩] 55)
  have hB2 := bt (bd hb1 nd) hbA
  have hR2 : FourF ((w1.drewN nd).alloc (.cells #[.int .i64 0, .int .i64 0, .int .i64 0, .string ⟨#[]⟩] 55)) w.heap.size 0 0 0 ⟨#[]⟩ := FourF.up (w := w1.drewN nd) hR1 hbA
  have hD2 : FourF ((w1.drewN nd).alloc (.cells #[.int .i64 0, .int .i64 0, .int .i64 0, .string ⟨#[]⟩] 55)) w1.heap.size 0 0 0 ⟨#[]⟩ := FourF.made (w1.drewN nd) 55 0 0 0 ⟨#[]⟩
  have hg2 : Glo ((w1.drewN nd).alloc (.cells #[.int .i64 0, .int .i64 0, .int .i64 0, .string ⟨#[]⟩] 55)) := hg.up hB2
  clear K1 hR1 hb1 hg1 hbA hg
  obtain ⟨⟨_, r0, r1, r2, r3⟩, f0, f1, f2, f3⟩ := id hR2
  obtain ⟨⟨_, d0, d1, d2, d3⟩, e0, e1, e2, e3⟩ := id hD2
  go_wp2_with fail
  refine (strClone_c ⟨v.toArray⟩ _ (by rw [show (⟨v.toArray⟩ : ByteArray).size = v.length from bl_size v]; omega)).mono ?_
  rintro e w4 ⟨rfl, hb4⟩
  have hR4 := hR2.up hb4
  have hD4 := hD2.up hb4
  have hB4 := bt hB2 hb4
  clear hb4 hR2 hD2 hB2 hg2
  have hch : Chg w1.heap.size (w1.heap.size + 1) (w4) (((((w4).setCell ⟨w1.heap.size, 0, none⟩ (.int .i64 1)).setCell ⟨w1.heap.size, 1, none⟩ (.int .i64 0)).setCell ⟨w1.heap.size, 2, none⟩ (.int .i64 0)).setCell ⟨w1.heap.size, 3, none⟩ (.string ⟨v.toArray⟩)) :=
    ((((((Chg.refl _ _ _).setCell (p := ⟨w1.heap.size, 0, none⟩) (Nat.le_refl _) (Nat.lt_succ_self _) _).setCell (p := ⟨w1.heap.size, 1, none⟩) (Nat.le_refl _) (Nat.lt_succ_self _) _).setCell (p := ⟨w1.heap.size, 2, none⟩) (Nat.le_refl _) (Nat.lt_succ_self _) _).setCell (p := ⟨w1.heap.size, 3, none⟩) (Nat.le_refl _) (Nat.lt_succ_self _) _))
  have hD8 : FourF (((((w4).setCell ⟨w1.heap.size, 0, none⟩ (.int .i64 1)).setCell ⟨w1.heap.size, 1, none⟩ (.int .i64 0)).setCell ⟨w1.heap.size, 2, none⟩ (.int .i64 0)).setCell ⟨w1.heap.size, 3, none⟩ (.string ⟨v.toArray⟩)) w1.heap.size 1 0 0 ⟨v.toArray⟩ := (hD4.set 1 0 0 ⟨v.toArray⟩)
  have hR8 := hR4.chg hch (.inl (by omega))
  have hB8 : Below w.heap.size w (((((w4).setCell ⟨w1.heap.size, 0, none⟩ (.int .i64 1)).setCell ⟨w1.heap.size, 1, none⟩ (.int .i64 0)).setCell ⟨w1.heap.size, 2, none⟩ (.int .i64 0)).setCell ⟨w1.heap.size, 3, none⟩ (.string ⟨v.toArray⟩)) := hB4.trans (hch.belowLo (B := w.heap.size) (by omega) hB4.size)
  have hg8 := hg0.up hB8
  have HG8 := Lib.hid hg8
  have HR8 := Lib.hid hR8
  have HD8 := Lib.hid hD8
  have HB8 := Lib.hid hB8
  (try clear d0 d1 d2 d3 e0 e1 e2 e3 r0 r1 r2 r3 f0 f1 f2 f3)
  obtain ⟨⟨_, d0, d1, d2, d3⟩, e0, e1, e2, e3⟩ := id hD4
  obtain ⟨⟨_, g0, g1, g2, g3⟩, _, _, _, _⟩ := id hD8
  clear hch hR8 hD8 hB8 hg8 hR4 hD4 hB4
  go_wp2_with fail
  (try clear d0 d1 d2 d3 e0 e1 e2 e3 g0 g1 g2 g3)
  generalize (((((w4).setCell ⟨w1.heap.size, 0, none⟩ (.int .i64 1)).setCell ⟨w1.heap.size, 1, none⟩ (.int .i64 0)).setCell ⟨w1.heap.size, 2, none⟩ (.int .i64 0)).setCell ⟨w1.heap.size, 3, none⟩ (.string ⟨v.toArray⟩)) = w8 at *
  refine (deedText_c 1 0 0 ⟨v.toArray⟩ _ (by rw [show (⟨v.toArray⟩ : ByteArray).size = v.length from bl_size v]; omega) HG8.out.tab HG8.out.six).mono ?_
  rintro e w9 ⟨rfl, hb9⟩
  have hR9 := HR8.out.up hb9
  have hD9 := HD8.out.up hb9
  have hB9 := bt HB8.out hb9
  clear hb9 HG8 HR8 HD8 HB8
  obtain ⟨⟨_, r0, r1, r2, r3⟩, f0, f1, f2, f3⟩ := id hR9
  obtain ⟨⟨_, d0, d1, d2, d3⟩, e0, e1, e2, e3⟩ := id hD9
  by_cases hE : dtL 1 0 0 v = s.data.toList
  · have hT : dtX 1 0 0 ⟨v.toArray⟩ = s := by unfold dtX; rw [show (⟨v.toArray⟩ : ByteArray).data.toList = v from bl_list v, hE, bl_of]
    have HV := Lib.hid (hr1 hE)
    rw [hT]
    clear hT hE hr1 hr2
    have hend := (((hB9.setCell (p := ⟨w.heap.size, 0, none⟩) (Nat.le_refl _) (.int .i64 1)).setCell (p := ⟨w.heap.size, 1, none⟩) (Nat.le_refl _) (.int .i64 0)).setCell (p := ⟨w.heap.size, 2, none⟩) (Nat.le_refl _) (.int .i64 0)).setCell (p := ⟨w.heap.size, 3, none⟩) (Nat.le_refl _) (.string ⟨v.toArray⟩)
    have HT := Lib.hid (hR9.set 1 0 0 ⟨v.toArray⟩)
    have HE := Lib.hid hend
    clear hend hR9 hD9 hB9
    go_wp2_with fail
    (try simp only [Exit.inBlock, Exit.then])
    refine bodyPost_ret (v := .tuple #[.agg #[.int .i64 1, .int .i64 0, .int .i64 0, .string ⟨v.toArray⟩], .bool true]) ?_ rfl ⟨by rw [HV.out]; rfl, HE.out⟩
    exact Eq.trans (results_four_tmp (p := 2) (r := 3) rfl _ _ w.heap.size _ _ _ _ _ rfl HT.out.1.2 Tryz.underlying55 rfl deed_size) rfl
  · have hT : ¬ dtX 1 0 0 ⟨v.toArray⟩ = s := fun h => hE (by rw [← h]; unfold dtX; rw [bl_list, show (⟨v.toArray⟩ : ByteArray).data.toList = v from bl_list v])
    have HV := Lib.hid (hr2 hE)
    generalize dtX 1 0 0 ⟨v.toArray⟩ = T at *
    have qT : (T.toList == s.toList) = false := beqF (fun h => hT (by rw [← bl_of T, ← bl_of s, ← ByteArray.toList_eq, ← ByteArray.toList_eq, h]))
    have qN : (T.toList != s.toList) = true := by unfold bne; rw [qT]; rfl
    clear hT hE hr1 hr2
    have hend := (((hB9.setCell (p := ⟨w.heap.size, 0, none⟩) (Nat.le_refl _) (.int .i64 0)).setCell (p := ⟨w.heap.size, 1, none⟩) (Nat.le_refl _) (.int .i64 0)).setCell (p := ⟨w.heap.size, 2, none⟩) (Nat.le_refl _) (.int .i64 0)).setCell (p := ⟨w.heap.size, 3, none⟩) (Nat.le_refl _) (.string ⟨#[]⟩)
    have HT := Lib.hid (hR9.set 0 0 0 ⟨#[]⟩)
    have HE := Lib.hid hend
    clear hend hR9 hD9 hB9
    go_wp2_with fail
    (try simp only [Exit.inBlock, Exit.then])
    refine bodyPost_ret (v := .tuple #[.agg #[.int .i64 0, .int .i64 0, .int .i64 0, .string ⟨#[]⟩], .bool false]) ?_ rfl ⟨by rw [HV.out]; rfl, HE.out⟩
    exact Eq.trans (results_four_tmp (p := 2) (r := 3) rfl _ _ w.heap.size _ _ _ _ _ rfl HT.out.1.2 Tryz.underlying55 rfl deed_size) rfl
set_option maxRecDepth 100000 in
set_option maxHeartbeats 800000 in
theorem rdd_name (s : ByteArray) (w : World) (hsz : s.size ≤ 2000000) (hg : Glo w) (v : List UInt8) (b : Bool) (hv : v.length ≤ 2000000) (hc : Lib.cut s.data.toList [32] = ([110, 97, 109, 101], v, b)) (r : Dl × Bool) (hr1 : dtL 3 0 0 v = s.data.toList → r = ((3, 0, 0, v), true)) (hr2 : ¬ dtL 3 0 0 v = s.data.toList → r = ((0, 0, 0, []), false)) :
    Calls Tryz.prog 41 #[.string s] w (RdOut r w) := by
  have hg0 := hg
  have hR1 := FourF.made w 55 0 0 0 ⟨#[]⟩
  have hb1 := below_new w (.cells #[.int .i64 0, .int .i64 0, .int .i64 0, .string ⟨#[]⟩] 55)
  have hg1 := hg.up hb1
  obtain ⟨m, hm⟩ := hg1.max
  have K1 := strings_Cut s ⟨#[32]⟩ m _ (by omega) hm
  rw [hc] at K1
  simp only [] at K1
  clear hm hc
  go_enter Tryz.func41, Tryz.ntmps41
  go_wp2_with fail
  generalize w.alloc (.cells #[.int .i64 0, .int .i64 0, .int .i64 0, .string ⟨#[]⟩] 55) = w1 at *
  refine K1.mono ?_
  rintro e w2 ⟨rfl, nd, rfl⟩
  have hz1 := hR1.1.1
  have hbA := below_new (w1.drewN nd) (.cells #[.int .i64 0, .int .i64 0, .int .i64 0, .string ⟨#[]⟩] 55)
  have hB2 := bt (bd hb1 nd) hbA
  have hR2 : FourF ((w1.drewN nd).alloc (.cells #[.int .i64 0, .int .i64 0, .int .i64 0, .string ⟨#[]⟩] 55)) w.heap.size 0 0 0 ⟨#[]⟩ := FourF.up (w := w1.drewN nd) hR1 hbA
  have hD2 : FourF ((w1.drewN nd).alloc (.cells #[.int .i64 0, .int .i64 0, .int .i64 0, .string ⟨#[]⟩] 55)) w1.heap.size 0 0 0 ⟨#[]⟩ := FourF.made (w1.drewN nd) 55 0 0 0 ⟨#[]⟩
  have hg2 : Glo ((w1.drewN nd).alloc (.cells #[.int .i64 0, .int .i64 0, .int .i64 0, .string ⟨#[]⟩] 55)) := hg.up hB2
  clear K1 hR1 hb1 hg1 hbA hg
  obtain ⟨⟨_, r0, r1, r2, r3⟩, f0, f1, f2, f3⟩ := id hR2
  obtain ⟨⟨_, d0, d1, d2, d3⟩, e0, e1, e2, e3⟩ := id hD2
  go_wp2_with fail
  refine (strClone_c ⟨v.toArray⟩ _ (by rw [show (⟨v.toArray⟩ : ByteArray).size = v.length from bl_size v]; omega)).mono ?_
  rintro e w4 ⟨rfl, hb4⟩
  have hR4 := hR2.up hb4
  have hD4 := hD2.up hb4
  have hB4 := bt hB2 hb4
  clear hb4 hR2 hD2 hB2 hg2
  have hch : Chg w1.heap.size (w1.heap.size + 1) (w4) (((((w4).setCell ⟨w1.heap.size, 0, none⟩ (.int .i64 3)).setCell ⟨w1.heap.size, 1, none⟩ (.int .i64 0)).setCell ⟨w1.heap.size, 2, none⟩ (.int .i64 0)).setCell ⟨w1.heap.size, 3, none⟩ (.string ⟨v.toArray⟩)) :=
    ((((((Chg.refl _ _ _).setCell (p := ⟨w1.heap.size, 0, none⟩) (Nat.le_refl _) (Nat.lt_succ_self _) _).setCell (p := ⟨w1.heap.size, 1, none⟩) (Nat.le_refl _) (Nat.lt_succ_self _) _).setCell (p := ⟨w1.heap.size, 2, none⟩) (Nat.le_refl _) (Nat.lt_succ_self _) _).setCell (p := ⟨w1.heap.size, 3, none⟩) (Nat.le_refl _) (Nat.lt_succ_self _) _))
  have hD8 : FourF (((((w4).setCell ⟨w1.heap.size, 0, none⟩ (.int .i64 3)).setCell ⟨w1.heap.size, 1, none⟩ (.int .i64 0)).setCell ⟨w1.heap.size, 2, none⟩ (.int .i64 0)).setCell ⟨w1.heap.size, 3, none⟩ (.string ⟨v.toArray⟩)) w1.heap.size 3 0 0 ⟨v.toArray⟩ := (hD4.set 3 0 0 ⟨v.toArray⟩)
  have hR8 := hR4.chg hch (.inl (by omega))
  have hB8 : Below w.heap.size w (((((w4).setCell ⟨w1.heap.size, 0, none⟩ (.int .i64 3)).setCell ⟨w1.heap.size, 1, none⟩ (.int .i64 0)).setCell ⟨w1.heap.size, 2, none⟩ (.int .i64 0)).setCell ⟨w1.heap.size, 3, none⟩ (.string ⟨v.toArray⟩)) := hB4.trans (hch.belowLo (B := w.heap.size) (by omega) hB4.size)
  have hg8 := hg0.up hB8
  have HG8 := Lib.hid hg8
  have HR8 := Lib.hid hR8
  have HD8 := Lib.hid hD8
  have HB8 := Lib.hid hB8
  (try clear d0 d1 d2 d3 e0 e1 e2 e3 r0 r1 r2 r3 f0 f1 f2 f3)
  obtain ⟨⟨_, d0, d1, d2, d3⟩, e0, e1, e2, e3⟩ := id hD4
  obtain ⟨⟨_, g0, g1, g2, g3⟩, _, _, _, _⟩ := id hD8
  clear hch hR8 hD8 hB8 hg8 hR4 hD4 hB4
  go_wp2_with fail
  (try clear d0 d1 d2 d3 e0 e1 e2 e3 g0 g1 g2 g3)
  generalize (((((w4).setCell ⟨w1.heap.size, 0, none⟩ (.int .i64 3)).setCell ⟨w1.heap.size, 1, none⟩ (.int .i64 0)).setCell ⟨w1.heap.size, 2, none⟩ (.int .i64 0)).setCell ⟨w1.heap.size, 3, none⟩ (.string ⟨v.toArray⟩)) = w8 at *
  refine (deedText_c 3 0 0 ⟨v.toArray⟩ _ (by rw [show (⟨v.toArray⟩ : ByteArray).size = v.length from bl_size v]; omega) HG8.out.tab HG8.out.six).mono ?_
  rintro e w9 ⟨rfl, hb9⟩
  have hR9 := HR8.out.up hb9
  have hD9 := HD8.out.up hb9
  have hB9 := bt HB8.out hb9
  clear hb9 HG8 HR8 HD8 HB8
  obtain ⟨⟨_, r0, r1, r2, r3⟩, f0, f1, f2, f3⟩ := id hR9
  obtain ⟨⟨_, d0, d1, d2, d3⟩, e0, e1, e2, e3⟩ := id hD9
  by_cases hE : dtL 3 0 0 v = s.data.toList
  · have hT : dtX 3 0 0 ⟨v.toArray⟩ = s := by unfold dtX; rw [show (⟨v.toArray⟩ : ByteArray).data.toList = v from bl_list v, hE, bl_of]
    have HV := Lib.hid (hr1 hE)
    rw [hT]
    clear hT hE hr1 hr2
    have hend := (((hB9.setCell (p := ⟨w.heap.size, 0, none⟩) (Nat.le_refl _) (.int .i64 3)).setCell (p := ⟨w.heap.size, 1, none⟩) (Nat.le_refl _) (.int .i64 0)).setCell (p := ⟨w.heap.size, 2, none⟩) (Nat.le_refl _) (.int .i64 0)).setCell (p := ⟨w.heap.size, 3, none⟩) (Nat.le_refl _) (.string ⟨v.toArray⟩)
    have HT := Lib.hid (hR9.set 3 0 0 ⟨v.toArray⟩)
    have HE := Lib.hid hend
    clear hend hR9 hD9 hB9
    go_wp2_with fail
    (try simp only [Exit.inBlock, Exit.then])
    refine bodyPost_ret (v := .tuple #[.agg #[.int .i64 3, .int .i64 0, .int .i64 0, .string ⟨v.toArray⟩], .bool true]) ?_ rfl ⟨by rw [HV.out]; rfl, HE.out⟩
    exact Eq.trans (results_four_tmp (p := 2) (r := 3) rfl _ _ w.heap.size _ _ _ _ _ rfl HT.out.1.2 Tryz.underlying55 rfl deed_size) rfl
  · have hT : ¬ dtX 3 0 0 ⟨v.toArray⟩ = s := fun h => hE (by rw [← h]; unfold dtX; rw [bl_list, show (⟨v.toArray⟩ : ByteArray).data.toList = v from bl_list v])
    have HV := Lib.hid (hr2 hE)
    generalize dtX 3 0 0 ⟨v.toArray⟩ = T at *
    have qT : (T.toList == s.toList) = false := beqF (fun h => hT (by rw [← bl_of T, ← bl_of s, ← ByteArray.toList_eq, ← ByteArray.toList_eq, h]))
    have qN : (T.toList != s.toList) = true := by unfold bne; rw [qT]; rfl
    clear hT hE hr1 hr2
    have hend := (((hB9.setCell (p := ⟨w.heap.size, 0, none⟩) (Nat.le_refl _) (.int .i64 0)).setCell (p := ⟨w.heap.size, 1, none⟩) (Nat.le_refl _) (.int .i64 0)).setCell (p := ⟨w.heap.size, 2, none⟩) (Nat.le_refl _) (.int .i64 0)).setCell (p := ⟨w.heap.size, 3, none⟩) (Nat.le_refl _) (.string ⟨#[]⟩)
    have HT := Lib.hid (hR9.set 0 0 0 ⟨#[]⟩)
    have HE := Lib.hid hend
    clear hend hR9 hD9 hB9
    go_wp2_with fail
    (try simp only [Exit.inBlock, Exit.then])
    refine bodyPost_ret (v := .tuple #[.agg #[.int .i64 0, .int .i64 0, .int .i64 0, .string ⟨#[]⟩], .bool false]) ?_ rfl ⟨by rw [HV.out]; rfl, HE.out⟩
    exact Eq.trans (results_four_tmp (p := 2) (r := 3) rfl _ _ w.heap.size _ _ _ _ _ rfl HT.out.1.2 Tryz.underlying55 rfl deed_size) rfl
set_option maxRecDepth 100000 in
set_option maxHeartbeats 800000 in
theorem rdd_power (s : ByteArray) (w : World) (hsz : s.size ≤ 2000000) (hg : Glo w) (v : List UInt8) (b : Bool) (n : Int) (hv : v.length ≤ 2000000) (hn : Lib.atoiAll v = .ok n) (hc : Lib.cut s.data.toList [32] = ([112, 111, 119, 101, 114], v, b)) (r : Dl × Bool) (hr1 : dtL 2 n 0 [] = s.data.toList → r = ((2, n, 0, []), true)) (hr2 : ¬ dtL 2 n 0 [] = s.data.toList → r = ((0, 0, 0, []), false)) :
    Calls Tryz.prog 41 #[.string s] w (RdOut r w) := by
  have hg0 := hg
  have hR1 := FourF.made w 55 0 0 0 ⟨#[]⟩
  have hb1 := below_new w (.cells #[.int .i64 0, .int .i64 0, .int .i64 0, .string ⟨#[]⟩] 55)
  have hg1 := hg.up hb1
  obtain ⟨m, hm⟩ := hg1.max
  have K1 := strings_Cut s ⟨#[32]⟩ m _ (by omega) hm
  rw [hc] at K1
  simp only [] at K1
  clear hm hc
  go_enter Tryz.func41, Tryz.ntmps41
  go_wp2_with fail
  generalize w.alloc (.cells #[.int .i64 0, .int .i64 0, .int .i64 0, .string ⟨#[]⟩] 55) = w1 at *
  refine K1.mono ?_
  rintro e w2 ⟨rfl, nd, rfl⟩
  have hz1 := hR1.1.1
  have hbA := below_new (w1.drewN nd) (.cells #[.int .i64 0, .int .i64 0, .int .i64 0, .string ⟨#[]⟩] 55)
  have hB2 := bt (bd hb1 nd) hbA
  have hR2 : FourF ((w1.drewN nd).alloc (.cells #[.int .i64 0, .int .i64 0, .int .i64 0, .string ⟨#[]⟩] 55)) w.heap.size 0 0 0 ⟨#[]⟩ := FourF.up (w := w1.drewN nd) hR1 hbA
  have hD2 : FourF ((w1.drewN nd).alloc (.cells #[.int .i64 0, .int .i64 0, .int .i64 0, .string ⟨#[]⟩] 55)) w1.heap.size 0 0 0 ⟨#[]⟩ := FourF.made (w1.drewN nd) 55 0 0 0 ⟨#[]⟩
  have hg2 : Glo ((w1.drewN nd).alloc (.cells #[.int .i64 0, .int .i64 0, .int .i64 0, .string ⟨#[]⟩] 55)) := hg.up hB2
  clear K1 hR1 hb1 hg1 hbA hg
  obtain ⟨⟨_, r0, r1, r2, r3⟩, f0, f1, f2, f3⟩ := id hR2
  obtain ⟨⟨_, d0, d1, d2, d3⟩, e0, e1, e2, e3⟩ := id hD2
  go_wp2_with fail
  refine (strconv_Atoi_ok ⟨v.toArray⟩ (by rw [show (⟨v.toArray⟩ : ByteArray).size = v.length from bl_size v]; omega) n (by rw [show (⟨v.toArray⟩ : ByteArray).data.toList = v from bl_list v]; exact hn) _).mono ?_
  rintro e w4 ⟨rfl, hw4⟩
  have hb4 : Below ((w1.drewN nd).alloc (.cells #[.int .i64 0, .int .i64 0, .int .i64 0, .string ⟨#[]⟩] 55)).heap.size ((w1.drewN nd).alloc (.cells #[.int .i64 0, .int .i64 0, .int .i64 0, .string ⟨#[]⟩] 55)) w4 := by
    rcases hw4 with rfl | ⟨t, rfl⟩
    · exact Below.refl _ _
    · exact Lib.bytesWorld_below _ _ _
  have hR4 := hR2.up hb4
  have hD4 := hD2.up hb4
  have hB4 := bt hB2 hb4
  clear hb4 hR2 hD2 hB2 hg2 hw4 hn
  have hch : Chg w1.heap.size (w1.heap.size + 1) (w4) (((((w4).setCell ⟨w1.heap.size, 0, none⟩ (.int .i64 2)).setCell ⟨w1.heap.size, 1, none⟩ (.int .i64 n)).setCell ⟨w1.heap.size, 2, none⟩ (.int .i64 0)).setCell ⟨w1.heap.size, 3, none⟩ (.string ⟨#[]⟩)) :=
    ((((((Chg.refl _ _ _).setCell (p := ⟨w1.heap.size, 0, none⟩) (Nat.le_refl _) (Nat.lt_succ_self _) _).setCell (p := ⟨w1.heap.size, 1, none⟩) (Nat.le_refl _) (Nat.lt_succ_self _) _).setCell (p := ⟨w1.heap.size, 2, none⟩) (Nat.le_refl _) (Nat.lt_succ_self _) _).setCell (p := ⟨w1.heap.size, 3, none⟩) (Nat.le_refl _) (Nat.lt_succ_self _) _))
  have hD8 : FourF (((((w4).setCell ⟨w1.heap.size, 0, none⟩ (.int .i64 2)).setCell ⟨w1.heap.size, 1, none⟩ (.int .i64 n)).setCell ⟨w1.heap.size, 2, none⟩ (.int .i64 0)).setCell ⟨w1.heap.size, 3, none⟩ (.string ⟨#[]⟩)) w1.heap.size 2 n 0 ⟨#[]⟩ := (hD4.set 2 n 0 ⟨#[]⟩)
  have hR8 := hR4.chg hch (.inl (by omega))
  have hB8 : Below w.heap.size w (((((w4).setCell ⟨w1.heap.size, 0, none⟩ (.int .i64 2)).setCell ⟨w1.heap.size, 1, none⟩ (.int .i64 n)).setCell ⟨w1.heap.size, 2, none⟩ (.int .i64 0)).setCell ⟨w1.heap.size, 3, none⟩ (.string ⟨#[]⟩)) := hB4.trans (hch.belowLo (B := w.heap.size) (by omega) hB4.size)
  have hg8 := hg0.up hB8
  have HG8 := Lib.hid hg8
  have HR8 := Lib.hid hR8
  have HD8 := Lib.hid hD8
  have HB8 := Lib.hid hB8
  (try clear d0 d1 d2 d3 e0 e1 e2 e3 r0 r1 r2 r3 f0 f1 f2 f3)
  obtain ⟨⟨_, d0, d1, d2, d3⟩, e0, e1, e2, e3⟩ := id hD4
  obtain ⟨⟨_, g0, g1, g2, g3⟩, _, _, _, _⟩ := id hD8
  clear hch hR8 hD8 hB8 hg8 hR4 hD4 hB4
  go_wp2_with fail
  (try clear d0 d1 d2 d3 e0 e1 e2 e3 g0 g1 g2 g3)
  generalize (((((w4).setCell ⟨w1.heap.size, 0, none⟩ (.int .i64 2)).setCell ⟨w1.heap.size, 1, none⟩ (.int .i64 n)).setCell ⟨w1.heap.size, 2, none⟩ (.int .i64 0)).setCell ⟨w1.heap.size, 3, none⟩ (.string ⟨#[]⟩)) = w8 at *
  refine (deedText_c 2 n 0 ⟨#[]⟩ _ (Nat.zero_le _) HG8.out.tab HG8.out.six).mono ?_
  rintro e w9 ⟨rfl, hb9⟩
  have hR9 := HR8.out.up hb9
  have hD9 := HD8.out.up hb9
  have hB9 := bt HB8.out hb9
  clear hb9 HG8 HR8 HD8 HB8
  obtain ⟨⟨_, r0, r1, r2, r3⟩, f0, f1, f2, f3⟩ := id hR9
  obtain ⟨⟨_, d0, d1, d2, d3⟩, e0, e1, e2, e3⟩ := id hD9
  by_cases hE : dtL 2 n 0 [] = s.data.toList
  · have hT : dtX 2 n 0 ⟨#[]⟩ = s := by unfold dtX; rw [show (⟨#[]⟩ : ByteArray).data.toList = [] from bl_list [], hE, bl_of]
    have HV := Lib.hid (hr1 hE)
    rw [hT]
    clear hT hE hr1 hr2
    have hend := (((hB9.setCell (p := ⟨w.heap.size, 0, none⟩) (Nat.le_refl _) (.int .i64 2)).setCell (p := ⟨w.heap.size, 1, none⟩) (Nat.le_refl _) (.int .i64 n)).setCell (p := ⟨w.heap.size, 2, none⟩) (Nat.le_refl _) (.int .i64 0)).setCell (p := ⟨w.heap.size, 3, none⟩) (Nat.le_refl _) (.string ⟨#[]⟩)
    have HT := Lib.hid (hR9.set 2 n 0 ⟨#[]⟩)
    have HE := Lib.hid hend
    clear hend hR9 hD9 hB9
    go_wp2_with fail
    (try simp only [Exit.inBlock, Exit.then])
    refine bodyPost_ret (v := .tuple #[.agg #[.int .i64 2, .int .i64 n, .int .i64 0, .string ⟨#[]⟩], .bool true]) ?_ rfl ⟨by rw [HV.out]; rfl, HE.out⟩
    exact Eq.trans (results_four_tmp (p := 2) (r := 3) rfl _ _ w.heap.size _ _ _ _ _ rfl HT.out.1.2 Tryz.underlying55 rfl deed_size) rfl
  · have hT : ¬ dtX 2 n 0 ⟨#[]⟩ = s := fun h => hE (by rw [← h]; unfold dtX; rw [bl_list, show (⟨#[]⟩ : ByteArray).data.toList = [] from bl_list []])
    have HV := Lib.hid (hr2 hE)
    generalize dtX 2 n 0 ⟨#[]⟩ = T at *
    have qT : (T.toList == s.toList) = false := beqF (fun h => hT (by rw [← bl_of T, ← bl_of s, ← ByteArray.toList_eq, ← ByteArray.toList_eq, h]))
    have qN : (T.toList != s.toList) = true := by unfold bne; rw [qT]; rfl
    clear hT hE hr1 hr2
    have hend := (((hB9.setCell (p := ⟨w.heap.size, 0, none⟩) (Nat.le_refl _) (.int .i64 0)).setCell (p := ⟨w.heap.size, 1, none⟩) (Nat.le_refl _) (.int .i64 0)).setCell (p := ⟨w.heap.size, 2, none⟩) (Nat.le_refl _) (.int .i64 0)).setCell (p := ⟨w.heap.size, 3, none⟩) (Nat.le_refl _) (.string ⟨#[]⟩)
    have HT := Lib.hid (hR9.set 0 0 0 ⟨#[]⟩)
    have HE := Lib.hid hend
    clear hend hR9 hD9 hB9
    go_wp2_with fail
    (try simp only [Exit.inBlock, Exit.then])
    refine bodyPost_ret (v := .tuple #[.agg #[.int .i64 0, .int .i64 0, .int .i64 0, .string ⟨#[]⟩], .bool false]) ?_ rfl ⟨by rw [HV.out]; rfl, HE.out⟩
    exact Eq.trans (results_four_tmp (p := 2) (r := 3) rfl _ _ w.heap.size _ _ _ _ _ rfl HT.out.1.2 Tryz.underlying55 rfl deed_size) rfl
set_option maxRecDepth 100000 in
set_option maxHeartbeats 800000 in
theorem rdd_powerN (s : ByteArray) (w : World) (hsz : s.size ≤ 2000000) (hg : Glo w) (v : List UInt8) (b : Bool) (hv : v.length ≤ 2000000) (hn : ∀ n, Lib.atoiAll v ≠ .ok n) (hc : Lib.cut s.data.toList [32] = ([112, 111, 119, 101, 114], v, b)) :
    Calls Tryz.prog 41 #[.string s] w (RdOut ((0, 0, 0, []), false) w) := by
  have hR1 := FourF.made w 55 0 0 0 ⟨#[]⟩
  have hb1 := below_new w (.cells #[.int .i64 0, .int .i64 0, .int .i64 0, .string ⟨#[]⟩] 55)
  have hg1 := hg.up hb1
  obtain ⟨m, hm⟩ := hg1.max
  have K1 := strings_Cut s ⟨#[32]⟩ m _ (by omega) hm
  rw [hc] at K1
  simp only [] at K1
  clear hm hc
  go_enter Tryz.func41, Tryz.ntmps41
  go_wp2_with fail
  generalize w.alloc (.cells #[.int .i64 0, .int .i64 0, .int .i64 0, .string ⟨#[]⟩] 55) = w1 at *
  refine K1.mono ?_
  rintro e w2 ⟨rfl, nd, rfl⟩
  have hz1 := hR1.1.1
  have hbA := below_new (w1.drewN nd) (.cells #[.int .i64 0, .int .i64 0, .int .i64 0, .string ⟨#[]⟩] 55)
  have hB2 := bt (bd hb1 nd) hbA
  have hR2 : FourF ((w1.drewN nd).alloc (.cells #[.int .i64 0, .int .i64 0, .int .i64 0, .string ⟨#[]⟩] 55)) w.heap.size 0 0 0 ⟨#[]⟩ := FourF.up (w := w1.drewN nd) hR1 hbA
  have hD2 : FourF ((w1.drewN nd).alloc (.cells #[.int .i64 0, .int .i64 0, .int .i64 0, .string ⟨#[]⟩] 55)) w1.heap.size 0 0 0 ⟨#[]⟩ := FourF.made (w1.drewN nd) 55 0 0 0 ⟨#[]⟩
  have hg2 : Glo ((w1.drewN nd).alloc (.cells #[.int .i64 0, .int .i64 0, .int .i64 0, .string ⟨#[]⟩] 55)) := hg.up hB2
  clear K1 hR1 hb1 hg1 hbA hg
  obtain ⟨⟨_, r0, r1, r2, r3⟩, f0, f1, f2, f3⟩ := id hR2
  obtain ⟨⟨_, d0, d1, d2, d3⟩, e0, e1, e2, e3⟩ := id hD2
  go_wp2_with fail
  refine (strconv_Atoi_bad ⟨v.toArray⟩ (by rw [show (⟨v.toArray⟩ : ByteArray).size = v.length from bl_size v]; omega) (by rw [show (⟨v.toArray⟩ : ByteArray).data.toList = v from bl_list v]; exact hn) _ hg2.syn hg2.rng).mono ?_
  rintro e w4 ⟨nn, N, rfl, hb4⟩
  have hR4 := hR2.up hb4
  have hB4 := bt hB2 hb4
  clear hb4 hR2 hD2 hB2 hg2 hn r0 r1 r2 r3 f0 f1 f2 f3 d0 d1 d2 d3 e0 e1 e2 e3
  obtain ⟨⟨_, r0, r1, r2, r3⟩, f0, f1, f2, f3⟩ := id hR4
  have hend := (((hB4.setCell (p := ⟨w.heap.size, 0, none⟩) (Nat.le_refl _) (.int .i64 0)).setCell (p := ⟨w.heap.size, 1, none⟩) (Nat.le_refl _) (.int .i64 0)).setCell (p := ⟨w.heap.size, 2, none⟩) (Nat.le_refl _) (.int .i64 0)).setCell (p := ⟨w.heap.size, 3, none⟩) (Nat.le_refl _) (.string ⟨#[]⟩)
  have HT := Lib.hid (hR4.set 0 0 0 ⟨#[]⟩)
  have HE := Lib.hid hend
  clear hend hR4 hB4
  go_wp2_with fail
  (try simp only [Exit.inBlock, Exit.then])
  refine bodyPost_ret (v := .tuple #[.agg #[.int .i64 0, .int .i64 0, .int .i64 0, .string ⟨#[]⟩], .bool false]) ?_ rfl ⟨rfl, HE.out⟩
  exact Eq.trans (results_four_tmp (p := 2) (r := 3) rfl _ _ w.heap.size _ _ _ _ _ rfl HT.out.1.2 Tryz.underlying55 rfl deed_size) rfl
set_option maxRecDepth 100000 in
set_option maxHeartbeats 800000 in
theorem rdd_leadN (s : ByteArray) (w : World) (hsz : s.size ≤ 2000000) (hg : Glo w) (v : List UInt8) (b : Bool) (hv : v.length ≤ 2000000) (h3 : v.length ≠ 3) (hc : Lib.cut s.data.toList [32] = ([108, 101, 97, 100], v, b)) :
    Calls Tryz.prog 41 #[.string s] w (RdOut ((0, 0, 0, []), false) w) := by
  have q3 : ((v.length : Int) == 3) = false := by rw [beq_eq_false_iff_ne]; omega
  have q4 : ((v.length : Int) != 3) = true := by unfold bne; rw [q3]; rfl
  have hR1 := FourF.made w 55 0 0 0 ⟨#[]⟩
  have hb1 := below_new w (.cells #[.int .i64 0, .int .i64 0, .int .i64 0, .string ⟨#[]⟩] 55)
  have hg1 := hg.up hb1
  obtain ⟨m, hm⟩ := hg1.max
  have K1 := strings_Cut s ⟨#[32]⟩ m _ (by omega) hm
  rw [hc] at K1
  simp only [] at K1
  clear hm hc
  go_enter Tryz.func41, Tryz.ntmps41
  go_wp2_with fail
  generalize w.alloc (.cells #[.int .i64 0, .int .i64 0, .int .i64 0, .string ⟨#[]⟩] 55) = w1 at *
  refine K1.mono ?_
  rintro e w2 ⟨rfl, nd, rfl⟩
  have hz1 := hR1.1.1
  have hbA := below_new (w1.drewN nd) (.cells #[.int .i64 0, .int .i64 0, .int .i64 0, .string ⟨#[]⟩] 55)
  have hB2 := bt (bd hb1 nd) hbA
  have hR2 : FourF ((w1.drewN nd).alloc (.cells #[.int .i64 0, .int .i64 0, .int .i64 0, .string ⟨#[]⟩] 55)) w.heap.size 0 0 0 ⟨#[]⟩ := FourF.up (w := w1.drewN nd) hR1 hbA
  have hD2 : FourF ((w1.drewN nd).alloc (.cells #[.int .i64 0, .int .i64 0, .int .i64 0, .string ⟨#[]⟩] 55)) w1.heap.size 0 0 0 ⟨#[]⟩ := FourF.made (w1.drewN nd) 55 0 0 0 ⟨#[]⟩
  have hg2 : Glo ((w1.drewN nd).alloc (.cells #[.int .i64 0, .int .i64 0, .int .i64 0, .string ⟨#[]⟩] 55)) := hg.up hB2
  clear K1 hR1 hb1 hg1 hbA hg
  obtain ⟨⟨_, r0, r1, r2, r3⟩, f0, f1, f2, f3⟩ := id hR2
  obtain ⟨⟨_, d0, d1, d2, d3⟩, e0, e1, e2, e3⟩ := id hD2
  have hend := (((hB2.setCell (p := ⟨w.heap.size, 0, none⟩) (Nat.le_refl _) (.int .i64 0)).setCell (p := ⟨w.heap.size, 1, none⟩) (Nat.le_refl _) (.int .i64 0)).setCell (p := ⟨w.heap.size, 2, none⟩) (Nat.le_refl _) (.int .i64 0)).setCell (p := ⟨w.heap.size, 3, none⟩) (Nat.le_refl _) (.string ⟨#[]⟩)
  have HT := Lib.hid (hR2.set 0 0 0 ⟨#[]⟩)
  have HE := Lib.hid hend
  clear hend hR2 hD2 hg2 hB2
  go_wp2_with fail
  (try simp only [Exit.inBlock, Exit.then])
  refine bodyPost_ret (v := .tuple #[.agg #[.int .i64 0, .int .i64 0, .int .i64 0, .string ⟨#[]⟩], .bool false]) ?_ rfl ⟨rfl, HE.out⟩
  exact Eq.trans (results_four_tmp (p := 2) (r := 3) rfl _ _ w.heap.size _ _ _ _ _ rfl HT.out.1.2 Tryz.underlying55 rfl deed_size) rfl
end Go.Proofs.YtoinlkdmfclnbaaGreatDoor
