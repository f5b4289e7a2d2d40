/- Walk: ReadDeed of the program, the case lead. Printed by gen_w116.py. -/
import Derived.Test.YtoinlkdmfclnbaaGreatDoorW116
import Derived.Deep.RegionHeld3
namespace Go.Proofs.YtoinlkdmfclnbaaGreatDoor
set_option linter.unusedVariables false
open Go.RowKit

set_option maxRecDepth 100000 in
set_option maxHeartbeats 800000 in
theorem rdd_lead (s : ByteArray) (w : World) (hsz : s.size ≤ 2000000) (hg : Glo w) (x y z : UInt8) (b : Bool) (hc : Lib.cut s.data.toList [32] = ([108, 101, 97, 100], [x, y, z], b)) (p q : Int) (hp : p = (x.toNat : Int) - 48) (hq : q = (z.toNat : Int) - 48) (r : Dl × Bool) (hr1 : dtL 0 p q [] = s.data.toList → r = ((0, p, q, []), true)) (hr2 : ¬ dtL 0 p q [] = s.data.toList → r = ((0, 0, 0, []), false)) :
    Calls Tryz.prog 41 #[.string s] w (RdOut r w) := by
  have hg0 := hg
  have hx := x.toNat_lt
  have hy := z.toNat_lt
  have hw1 : IntKind.i64.wrap ((x.toNat : Int) - 48) = p := by rw [hp]; exact IntWalk.i64_in _ (by omega)
  have hw2 : IntKind.i64.wrap ((z.toNat : Int) - 48) = q := by rw [hq]; exact IntWalk.i64_in _ (by omega)
  have hw3 : IntKind.i64.wrap (x.toNat : Int) = (x.toNat : Int) := IntWalk.i64_in _ (by omega)
  have hw4 : IntKind.i64.wrap (z.toNat : Int) = (z.toNat : Int) := IntWalk.i64_in _ (by omega)
  have hi0 : ∀ W, (Instr.index 9 (.string ⟨[x, y, z].toArray⟩) (.int .i64 0)).run Tryz.prog W = .ok (.int .u8 (x.toNat : Int)) W := fun W => idx_bl [x, y, z] 0 W (Nat.succ_pos _)
  have hi2 : ∀ W, (Instr.index 9 (.string ⟨[x, y, z].toArray⟩) (.int .i64 2)).run Tryz.prog W = .ok (.int .u8 (z.toNat : Int)) W := fun W => idx_bl [x, y, z] 2 W (Nat.lt_succ_self _)
  clear hp hq
  have hR1 := FourF.made w 55 0 0 0 ⟨#[]⟩
  have hb1 := below_new w (.cells #[.int .i64 0, .int .i64 0, .int .i64 0, .string ⟨#[]⟩] 55)
  have hg1 := hg.up hb1
  obtain ⟨m, hm⟩ := hg1.max
  have K1 := strings_Cut s ⟨#[32]⟩ m _ (by omega) hm
  rw [hc] at K1
  simp only [] at K1
  clear hm hc
  go_enter Tryz.func41, Tryz.ntmps41
  go_wp2_with fail
  generalize w.alloc (.cells #[.int .i64 0, .int .i64 0, .int .i64 0, .string ⟨#[]⟩] 55) = w1 at *
  refine K1.mono ?_
  rintro e w2 ⟨rfl, nd, rfl⟩
  have hz1 := hR1.1.1
  have hbA := below_new (w1.drewN nd) (.cells #[.int .i64 0, .int .i64 0, .int .i64 0, .string ⟨#[]⟩] 55)
  have hB2 := bt (bd hb1 nd) hbA
  have hR2 : FourF ((w1.drewN nd).alloc (.cells #[.int .i64 0, .int .i64 0, .int .i64 0, .string ⟨#[]⟩] 55)) w.heap.size 0 0 0 ⟨#[]⟩ := FourF.up (w := w1.drewN nd) hR1 hbA
  have hD2 : FourF ((w1.drewN nd).alloc (.cells #[.int .i64 0, .int .i64 0, .int .i64 0, .string ⟨#[]⟩] 55)) w1.heap.size 0 0 0 ⟨#[]⟩ := FourF.made (w1.drewN nd) 55 0 0 0 ⟨#[]⟩
  have hg2 : Glo ((w1.drewN nd).alloc (.cells #[.int .i64 0, .int .i64 0, .int .i64 0, .string ⟨#[]⟩] 55)) := hg.up hB2
  clear K1 hR1 hb1 hg1 hbA hg
  obtain ⟨⟨_, r0, r1, r2, r3⟩, f0, f1, f2, f3⟩ := id hR2
  obtain ⟨⟨_, d0, d1, d2, d3⟩, e0, e1, e2, e3⟩ := id hD2
  go_wp2_with fail
  generalize ((w1.drewN nd).alloc (.cells #[.int .i64 0, .int .i64 0, .int .i64 0, .string ⟨#[]⟩] 55)) = w3 at *
  have hch : Chg w1.heap.size (w1.heap.size + 1) (w3) (World.drew (((((w3).setCell ⟨w1.heap.size, 0, none⟩ (.int .i64 0)).setCell ⟨w1.heap.size, 1, none⟩ (.int .i64 p)).setCell ⟨w1.heap.size, 2, none⟩ (.int .i64 q)).setCell ⟨w1.heap.size, 3, none⟩ (.string ⟨#[]⟩))) :=
    ((((((Chg.refl _ _ _).setCell (p := ⟨w1.heap.size, 0, none⟩) (Nat.le_refl _) (Nat.lt_succ_self _) _).setCell (p := ⟨w1.heap.size, 1, none⟩) (Nat.le_refl _) (Nat.lt_succ_self _) _).setCell (p := ⟨w1.heap.size, 2, none⟩) (Nat.le_refl _) (Nat.lt_succ_self _) _).setCell (p := ⟨w1.heap.size, 3, none⟩) (Nat.le_refl _) (Nat.lt_succ_self _) _)).dr
  have hD8 : FourF (World.drew (((((w3).setCell ⟨w1.heap.size, 0, none⟩ (.int .i64 0)).setCell ⟨w1.heap.size, 1, none⟩ (.int .i64 p)).setCell ⟨w1.heap.size, 2, none⟩ (.int .i64 q)).setCell ⟨w1.heap.size, 3, none⟩ (.string ⟨#[]⟩))) w1.heap.size 0 p q ⟨#[]⟩ := (hD2.set 0 p q ⟨#[]⟩).dr
  have hR8 := hR2.chg hch (.inl (by omega))
  have hB8 : Below w.heap.size w (World.drew (((((w3).setCell ⟨w1.heap.size, 0, none⟩ (.int .i64 0)).setCell ⟨w1.heap.size, 1, none⟩ (.int .i64 p)).setCell ⟨w1.heap.size, 2, none⟩ (.int .i64 q)).setCell ⟨w1.heap.size, 3, none⟩ (.string ⟨#[]⟩))) := hB2.trans (hch.belowLo (B := w.heap.size) (by omega) hB2.size)
  have hg8 := hg0.up hB8
  have HG8 := Lib.hid hg8
  have HR8 := Lib.hid hR8
  have HD8 := Lib.hid hD8
  have HB8 := Lib.hid hB8
  (try clear d0 d1 d2 d3 e0 e1 e2 e3 r0 r1 r2 r3 f0 f1 f2 f3)
  obtain ⟨⟨_, d0, d1, d2, d3⟩, e0, e1, e2, e3⟩ := id hD2
  obtain ⟨⟨_, g0, g1, g2, g3⟩, _, _, _, _⟩ := id hD8
  clear hch hR8 hD8 hB8 hg8 hR2 hD2 hB2
  go_region
  go_wp2_with fail
  (try clear d0 d1 d2 d3 e0 e1 e2 e3 g0 g1 g2 g3)
  generalize (World.drew (((((w3).setCell ⟨w1.heap.size, 0, none⟩ (.int .i64 0)).setCell ⟨w1.heap.size, 1, none⟩ (.int .i64 p)).setCell ⟨w1.heap.size, 2, none⟩ (.int .i64 q)).setCell ⟨w1.heap.size, 3, none⟩ (.string ⟨#[]⟩))) = w8 at *
  refine (deedText_c 0 p q ⟨#[]⟩ _ (Nat.zero_le _) HG8.out.tab HG8.out.six).mono ?_
  rintro e w9 ⟨rfl, hb9⟩
  have hR9 := HR8.out.up hb9
  have hD9 := HD8.out.up hb9
  have hB9 := bt HB8.out hb9
  clear hb9 HG8 HR8 HD8 HB8
  obtain ⟨⟨_, r0, r1, r2, r3⟩, f0, f1, f2, f3⟩ := id hR9
  obtain ⟨⟨_, d0, d1, d2, d3⟩, e0, e1, e2, e3⟩ := id hD9
  by_cases hE : dtL 0 p q [] = s.data.toList
  · have hT : dtX 0 p q ⟨#[]⟩ = s := by unfold dtX; rw [show (⟨#[]⟩ : ByteArray).data.toList = [] from bl_list [], hE, bl_of]
    have HV := Lib.hid (hr1 hE)
    rw [hT]
    clear hT hE hr1 hr2
    have hend := (((hB9.setCell (p := ⟨w.heap.size, 0, none⟩) (Nat.le_refl _) (.int .i64 0)).setCell (p := ⟨w.heap.size, 1, none⟩) (Nat.le_refl _) (.int .i64 p)).setCell (p := ⟨w.heap.size, 2, none⟩) (Nat.le_refl _) (.int .i64 q)).setCell (p := ⟨w.heap.size, 3, none⟩) (Nat.le_refl _) (.string ⟨#[]⟩)
    have HT := Lib.hid (hR9.set 0 p q ⟨#[]⟩)
    have HE := Lib.hid hend
    clear hend hR9 hD9 hB9
    go_wp2_with fail
    (try simp only [Exit.inBlock, Exit.then])
    refine bodyPost_ret (v := .tuple #[.agg #[.int .i64 0, .int .i64 p, .int .i64 q, .string ⟨#[]⟩], .bool true]) ?_ rfl ⟨by rw [HV.out]; rfl, HE.out⟩
    exact Eq.trans (results_four_tmp (p := 2) (r := 3) rfl _ _ w.heap.size _ _ _ _ _ rfl HT.out.1.2 Tryz.underlying55 rfl deed_size) rfl
  · have hT : ¬ dtX 0 p q ⟨#[]⟩ = s := fun h => hE (by rw [← h]; unfold dtX; rw [bl_list, show (⟨#[]⟩ : ByteArray).data.toList = [] from bl_list []])
    have HV := Lib.hid (hr2 hE)
    generalize dtX 0 p q ⟨#[]⟩ = T at *
    have qT : (T.toList == s.toList) = false := beqF (fun h => hT (by rw [← bl_of T, ← bl_of s, ← ByteArray.toList_eq, ← ByteArray.toList_eq, h]))
    have qN : (T.toList != s.toList) = true := by unfold bne; rw [qT]; rfl
    clear hT hE hr1 hr2
    have hend := (((hB9.setCell (p := ⟨w.heap.size, 0, none⟩) (Nat.le_refl _) (.int .i64 0)).setCell (p := ⟨w.heap.size, 1, none⟩) (Nat.le_refl _) (.int .i64 0)).setCell (p := ⟨w.heap.size, 2, none⟩) (Nat.le_refl _) (.int .i64 0)).setCell (p := ⟨w.heap.size, 3, none⟩) (Nat.le_refl _) (.string ⟨#[]⟩)
    have HT := Lib.hid (hR9.set 0 0 0 ⟨#[]⟩)
    have HE := Lib.hid hend
    clear hend hR9 hD9 hB9
    go_wp2_with fail
    (try simp only [Exit.inBlock, Exit.then])
    refine bodyPost_ret (v := .tuple #[.agg #[.int .i64 0, .int .i64 0, .int .i64 0, .string ⟨#[]⟩], .bool false]) ?_ rfl ⟨by rw [HV.out]; rfl, HE.out⟩
    exact Eq.trans (results_four_tmp (p := 2) (r := 3) rfl _ _ w.heap.size _ _ _ _ _ rfl HT.out.1.2 Tryz.underlying55 rfl deed_size) rfl
end Go.Proofs.YtoinlkdmfclnbaaGreatDoor
