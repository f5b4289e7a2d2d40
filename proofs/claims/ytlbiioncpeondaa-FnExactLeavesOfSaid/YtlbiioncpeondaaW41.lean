/- Walks: FromOf (spec), LeavesOf (impl and spec); the law FnExactLeavesOf (walk). Printed by gen_w41.py. -/
import Derived.Test.YtlbiioncpeondaaW40
import Derived.Test.YtlbiioncpeondaaW39
namespace Go.Proofs.Ytlbiioncpeondaa
set_option linter.unusedVariables false
open Go.RowKit

def Row1 (xs : List Int) (w : World) (e : Ending) (w' : World) : Prop := ∃ A n c, e = .returned (.slice A n c) ∧ OwnIn w' w.heap.size w'.heap.size A n c xs ∧ Below w.heap.size w w'
theorem Nums.row {xs : List Int} {w w' : World} {e : Ending} (h : Nums xs w e w') : Row1 xs w e w' := by
  obtain ⟨v, rfl, hO, hb⟩ := h
  obtain ⟨A, c, rfl, hO2⟩ := hO.form
  exact ⟨A, _, c, rfl, hO2.inn, hb⟩
set_option maxRecDepth 100000 in
set_option maxHeartbeats 800000 in
theorem sFromOf_c (A : Option Addr) (n c : Nat) (xs : List Int) (t : Int) (w : World) (h : Rd w w.heap.size A n c xs) :
    Calls Try.prog 68 #[.slice A n c, .int .i64 t] w (Nums (fromI xs t) w) := by
  have hB0 : Below w.heap.size w (w.alloc (Obj.cells #[] 3)) := (Below.refl _ _).alloc (Nat.le_refl _) _
  have hO0 := OwnV.made w w.heap.size #[] (Nat.le_refl _) rfl
  have h0 := h.up hB0
  have hl := h.len
  have hcp := h.cap
  have hmx := h.max
  unfold maxLen at hmx
  rcases hs : mapOk xs with _ | _
  · have HW := Lib.hid (fromI_no t hs)
    go_enter Try.func68, Try.ntmps68
    go_wp2_with fail
    generalize w.alloc (Obj.cells #[] 3) = w1 at hB0 hO0 h0 ⊢
    go_loopw [5, 6] (fun v i wr => v = .slice (some ⟨w.heap.size, 0, none⟩) 0 0 ∧ i = .int .i64 0 ∧ wr = w1) (fun _ i _ => 0)
    case atStart => exact ⟨rfl, rfl, rfl⟩
    case round =>
      obtain ⟨rfl, rfl, rfl⟩ := hrel
      by_cases hn : 0 < n
      · go_wp2_with (go_at_call 41; refine (sMapOk_c _ _ _ _ _ h0).mono ?_; rintro e w' ⟨rfl, rfl⟩)
        go_ret
        exact ⟨_, rfl, by rw [HW.out]; exact hO0, hB0⟩
      · go_wp2_with (go_at_call 41; refine (sMapOk_c _ _ _ _ _ h0).mono ?_; rintro e w' ⟨rfl, rfl⟩)
        go_ret
        exact ⟨_, rfl, by rw [HW.out]; exact hO0, hB0⟩
  · have hn7 : n ≤ 7 := by obtain ⟨f, rfl, hf⟩ := mapOk_ex hs; have := hf.le7; rw [ints_len] at hl; omega
    have HW : Hid (fromI xs t = fromX xs t n) := by unfold Hid; rw [fromI_ok t hs, hl]
    go_enter Try.func68, Try.ntmps68
    go_wp2_with fail
    generalize w.alloc (Obj.cells #[] 3) = w0 at hB0 hO0 h0 ⊢
    go_loopw [5, 6] (fun v i wr => ∃ k : Nat, k ≤ n ∧ i = .int .i64 k ∧ OwnV wr w.heap.size v (fromX xs t k) ∧ Below w.heap.size w wr) (fun _ i _ => n - (intOf i).toNat)
    case atStart => exact ⟨0, Nat.zero_le _, rfl, hO0, hB0⟩
    case round =>
      obtain ⟨k, hk, rfl, hown, hbw⟩ := hrel
      have hrd := h.up hbw
      by_cases hlt : k < n
      · obtain ⟨b, off, rfl, hbb, hcell⟩ := hrd.at_ hlt
        have hln : (fromX xs t k).length ≤ 1000000000000 := by have := fromX_len xs t k; omega
        have hsz := hbw.size
        by_cases he : gI xs k = t
        · have HT := Lib.hid (fromX_t he)
          have hq : (gI xs k == t) = true := by rw [he]; simp
          clear he
          go_wp2_with (first
            | (go_at_call 41; refine (sMapOk_c _ _ _ _ _ hrd).mono ?_; rintro e w' ⟨rfl, rfl⟩)
            | (at_builtin; refine app_int wr _ rfl _ _ rfl w.heap.size _ (fromX xs t k) rfl hown rfl hln hsz ?_; intro v' w3 hown3 hb3))
          go_roundw
          case rel => exact ⟨k + 1, by omega, by go_num, by rw [HT.out]; exact hown3, hbw.trans hb3⟩
          case measure => simp [intOf]; omega
        · have HT := Lib.hid (fromX_f he)
          have hq : (gI xs k == t) = false := by rw [beq_eq_false_iff_ne]; exact he
          clear he
          go_wp2_with (go_at_call 41; refine (sMapOk_c _ _ _ _ _ hrd).mono ?_; rintro e w' ⟨rfl, rfl⟩)
          go_roundw
          case rel => exact ⟨k + 1, by omega, by go_num, by rw [HT.out]; exact hown, hbw⟩
          case measure => simp [intOf]; omega
      · obtain rfl : k = n := by omega
        go_wp2_with fail
        go_ret
        exact ⟨_, rfl, by rw [HW.out]; exact hown, hbw⟩

/-! ### LeavesOf -/
def lvX (xs : List Int) : Nat → List Int
  | 0 => []
  | k + 1 => if (fromI xs (k : Int)).length = 0 then lvX xs k ++ [(k : Int)] else lvX xs k
theorem lvX_len (xs : List Int) : ∀ k, (lvX xs k).length ≤ k
  | 0 => Nat.le_refl _
  | k + 1 => by
    have := lvX_len xs k
    unfold lvX; split
    · rw [List.length_append]; simp; omega
    · omega
theorem lvX_t {xs : List Int} {k : Nat} (h : (fromI xs (k : Int)).length = 0) : lvX xs (k + 1) = lvX xs k ++ [(k : Int)] := by rw [lvX, if_pos h]
theorem lvX_f {xs : List Int} {k : Nat} (h : ¬ (fromI xs (k : Int)).length = 0) : lvX xs (k + 1) = lvX xs k := by rw [lvX, if_neg h]
def leavesI (xs : List Int) : List Int := if treeOkI xs then lvX xs xs.length else []
theorem leavesI_no {xs : List Int} (h : treeOkI xs = false) : leavesI xs = [] := by unfold leavesI; rw [h]; simp
theorem leavesI_ok {xs : List Int} (h : treeOkI xs = true) : leavesI xs = lvX xs xs.length := by unfold leavesI; rw [h]; simp
theorem tree_n7 {xs : List Int} (h : treeOkI xs = true) : xs.length ≤ 7 := by
  obtain ⟨f, rfl, hf, _⟩ := tree_ex h
  rw [ints_len]; exact hf.le7
set_option maxRecDepth 100000 in
set_option maxHeartbeats 1600000 in
theorem leavesOf_c (A : Option Addr) (n c : Nat) (xs : List Int) (w : World) (h : Rd w w.heap.size A n c xs) :
    Calls Try.prog 28 #[.slice A n c] w (Nums (leavesI xs) w) := by
  have hl := h.len
  have hcp := h.cap
  have hmx := h.max
  unfold maxLen at hmx
  rcases ht : treeOkI xs with _ | _
  · have HW := Lib.hid (leavesI_no ht)
    go_enter Try.func28, Try.ntmps28
    go_wp2_with fail
    refine (treeOk_c _ _ _ _ _ h).mono ?_
    rintro e w1 ⟨rfl, hb⟩
    rw [ht]
    go_wp2_with fail
    go_ret
    exact ⟨_, rfl, by rw [HW.out]; exact OwnV.nil_ _ _, hb⟩
  · have HW := Lib.hid (leavesI_ok ht)
    have hn7 := tree_n7 ht
    go_enter Try.func28, Try.ntmps28
    go_wp2_with fail
    refine (treeOk_c _ _ _ _ _ h).mono ?_
    rintro e w1 ⟨rfl, hb⟩
    rw [ht]
    go_wp2_with fail
    go_loopw [3, 10] (fun v i wr => ∃ k : Nat, k ≤ n ∧ i = .int .i64 k ∧ OwnV wr w.heap.size v (lvX xs k) ∧ Below w.heap.size w wr) (fun _ i _ => n - (intOf i).toNat)
    case atStart => exact ⟨0, Nat.zero_le _, rfl, OwnV.nil_ _ _, hb⟩
    case round =>
      obtain ⟨k, hk, rfl, hown, hbw⟩ := hrel
      have hrd := h.up hbw
      by_cases hlt : k < n
      · have hln : (lvX xs k).length ≤ 1000000000000 := by have := lvX_len xs k; omega
        go_wp2_with fail
        refine (fromOf_c _ _ _ _ _ _ hrd).mono ?_
        rintro e w3 ⟨v3, rfl, hO3, hb3⟩
        obtain ⟨A3, c3, rfl, hO4⟩ := hO3.form
        replace hown := hown.up hb3
        replace hbw := bt hbw hb3
        have hsz := hbw.size
        clear hO3 hO4 hb3 hrd
        by_cases he : (fromI xs (k : Int)).length = 0
        · have HT := Lib.hid (lvX_t he)
          rw [he]
          clear he
          go_wp2_with (at_builtin; refine app_int w3 _ rfl _ _ rfl w.heap.size _ (lvX xs k) rfl hown rfl hln hsz ?_; intro v' w4 hown4 hb4)
          go_roundw
          case rel => exact ⟨k + 1, by omega, by go_num, by rw [HT.out]; exact hown4, hbw.trans hb4⟩
          case measure => simp [intOf]; omega
        · have HT := Lib.hid (lvX_f he)
          generalize (fromI xs (k : Int)).length = m at he ⊢
          have hq : ((m : Int) == 0) = false := by rw [beq_eq_false_iff_ne]; omega
          clear he
          go_wp2_with fail
          go_roundw
          case rel => exact ⟨k + 1, by omega, by go_num, by rw [HT.out]; exact hown, hbw⟩
          case measure => simp [intOf]; omega
      · obtain rfl : k = n := by omega
        go_wp2_with fail
        go_ret
        exact ⟨_, rfl, by rw [HW.out, hl]; exact hown, hbw⟩
set_option maxRecDepth 100000 in
set_option maxHeartbeats 1600000 in
theorem sLeavesOf_c (A : Option Addr) (n c : Nat) (xs : List Int) (w : World) (h : Rd w w.heap.size A n c xs) :
    Calls Try.prog 27 #[.slice A n c] w (Nums (leavesI xs) w) := by
  have hl := h.len
  have hcp := h.cap
  have hmx := h.max
  unfold maxLen at hmx
  have hB0 : Below w.heap.size w (w.alloc (Obj.cells #[] 3)) := (Below.refl _ _).alloc (Nat.le_refl _) _
  have hO0 := OwnV.made w w.heap.size #[] (Nat.le_refl _) rfl
  rcases ht : treeOkI xs with _ | _
  · have HW := Lib.hid (leavesI_no ht)
    go_enter Try.func27, Try.ntmps27
    go_wp2_with fail
    generalize w.alloc (Obj.cells #[] 3) = w1 at hB0 hO0 ⊢
    go_loopw [3, 4] (fun v i wr => v = .slice (some ⟨w.heap.size, 0, none⟩) 0 0 ∧ i = .int .i64 0 ∧ wr = w1) (fun _ i _ => 0)
    case atStart => exact ⟨rfl, rfl, rfl⟩
    case round =>
      obtain ⟨rfl, rfl, rfl⟩ := hrel
      by_cases hn : 0 < n
      · go_wp2_with fail
        refine (sTreeOk_c _ _ _ _ _ (h.up hB0)).mono ?_
        rintro e w2 ⟨rfl, hb2⟩
        rw [ht]
        have hO2 := hO0.up hb2
        have hB2 := bt hB0 hb2
        clear hO0 hb2
        go_wp2_with fail
        go_ret
        exact ⟨_, rfl, by rw [HW.out]; exact hO2, hB2⟩
      · go_wp2_with fail
        go_ret
        exact ⟨_, rfl, by rw [HW.out]; exact hO0, hB0⟩
  · have HW := Lib.hid (leavesI_ok ht)
    have hn7 := tree_n7 ht
    go_enter Try.func27, Try.ntmps27
    go_wp2_with fail
    generalize w.alloc (Obj.cells #[] 3) = w1 at hB0 hO0 ⊢
    go_loopw [3, 4] (fun v i wr => ∃ k : Nat, k ≤ n ∧ i = .int .i64 k ∧ OwnV wr w.heap.size v (lvX xs k) ∧ Below w.heap.size w wr) (fun _ i _ => n - (intOf i).toNat)
    case atStart => exact ⟨0, Nat.zero_le _, rfl, hO0, hB0⟩
    case round =>
      obtain ⟨k, hk, rfl, hown, hbw⟩ := hrel
      have hrd := h.up hbw
      by_cases hlt : k < n
      · have hln : (lvX xs k).length ≤ 1000000000000 := by have := lvX_len xs k; omega
        go_wp2_with fail
        refine (sTreeOk_c _ _ _ _ _ hrd).mono ?_
        rintro e w2 ⟨rfl, hb2⟩
        rw [ht]
        replace hown := hown.up hb2
        replace hrd := hrd.up hb2
        replace hbw := bt hbw hb2
        clear hb2
        go_wp2_with fail
        refine (sFromOf_c _ _ _ _ _ _ hrd).mono ?_
        rintro e w3 ⟨v3, rfl, hO3, hb3⟩
        obtain ⟨A3, c3, rfl, hO4⟩ := hO3.form
        replace hown := hown.up hb3
        replace hbw := bt hbw hb3
        have hsz := hbw.size
        clear hO3 hO4 hb3 hrd
        by_cases he : (fromI xs (k : Int)).length = 0
        · have HT := Lib.hid (lvX_t he)
          rw [he]
          clear he
          go_wp2_with (at_builtin; refine app_int w3 _ rfl _ _ rfl w.heap.size _ (lvX xs k) rfl hown rfl hln hsz ?_; intro v' w4 hown4 hb4)
          go_roundw
          case rel => exact ⟨k + 1, by omega, by go_num, by rw [HT.out]; exact hown4, hbw.trans hb4⟩
          case measure => simp [intOf]; omega
        · have HT := Lib.hid (lvX_f he)
          generalize (fromI xs (k : Int)).length = m at he ⊢
          have hq : ((m : Int) == 0) = false := by rw [beq_eq_false_iff_ne]; omega
          clear he
          go_wp2_with fail
          go_roundw
          case rel => exact ⟨k + 1, by omega, by go_num, by rw [HT.out]; exact hown, hbw⟩
          case measure => simp [intOf]; omega
      · obtain rfl : k = n := by omega
        go_wp2_with fail
        go_ret
        exact ⟨_, rfl, by rw [HW.out, hl]; exact hown, hbw⟩
theorem leavesOf_r (A : Option Addr) (n c : Nat) (xs : List Int) (w : World) (h : Rd w w.heap.size A n c xs) : Calls Try.prog 28 #[.slice A n c] w (Row1 (leavesI xs) w) := (leavesOf_c A n c xs w h).mono fun _ _ h => h.row
theorem sLeavesOf_r (A : Option Addr) (n c : Nat) (xs : List Int) (w : World) (h : Rd w w.heap.size A n c xs) : Calls Try.prog 27 #[.slice A n c] w (Row1 (leavesI xs) w) := (sLeavesOf_c A n c xs w h).mono fun _ _ h => h.row
theorem leavesOf_small (xs : List Int) : (leavesI xs).length ≤ 1000000 := by
  rcases h : treeOkI xs with _ | _
  · rw [leavesI_no h]; simp
  · rw [leavesI_ok h]; have := lvX_len xs xs.length; have := tree_n7 h; omega
set_option maxRecDepth 100000 in
set_option maxHeartbeats 3200000 in
theorem walk_FnExactLeavesOf (A : Option Addr) (n c : Nat) (xs : List Int) (w : World) (h : Rd w w.heap.size A n c xs) :
    Calls Try.prog 6 #[.slice A n c] w fun e w' => e = .returned (.bool true) ∧ Below w.heap.size w w' := by
  by_cases hbig : 1048576 < n
  · go_enter Try.func6, Try.ntmps6
    go_wp2_with fail
    go_ret
    exact ⟨rfl, Below.refl _ _⟩
  · have hself := eqB_self xs
    have hself2 := eqB_self (leavesI xs)
    have hn : n ≤ 17592186044416 := by omega
    have hln : Hid ((leavesI xs).length ≤ 1000000) := leavesOf_small xs
    have hlx : Hid (xs.length = n) := h.len
    go_enter Try.func6, Try.ntmps6
    go_wp2_with fail
    refine (toIntS_c A n c xs _ h hn).mono ?_
    rintro e w1 ⟨rfl, ho1, hb1⟩
    go_wp2_with fail
    refine (sLeavesOf_r _ _ _ _ _ ho1.rd).mono ?_
    rintro e w2 ⟨AS, nS, cS, rfl, S2, hb2⟩
    have HB2 := bt hb1 hb2
    go_wp2_with fail
    refine (toIntS_c A n c xs _ (h.up HB2) hn).mono ?_
    rintro e w3 ⟨rfl, ho3, hb3⟩
    have HB3 := bt HB2 hb3
    have S3 := S2.up hb3
    have X3 := ho3.inn
    go_wp2_with fail
    refine (leavesOf_r _ _ _ _ _ ho3.rd).mono ?_
    rintro e w4 ⟨AG, nG, cG, rfl, G4, hb4⟩
    have HB4 := bt HB3 hb4
    have S4 := S3.up hb4
    have X4 := X3.up hb4
    have hsz2 := hb3.size
    have hsz3 := hb4.size
    have hsz1 := hb2.size
    have hsz0 := hb1.size
    go_wp2_with fail
    refine (eqIntS_c _ _ _ _ _ _ (leavesI xs) (leavesI xs) _ G4.rd S4.rd).mono ?_
    rintro e w5 ⟨rfl, m5, rfl⟩
    have HB5 := bd HB4 m5
    have S5 := S4.dn m5
    have X5 := X4.dn m5
    have G5 := G4.dn m5
    go_wp2_with fail
    refine (toIntS_c A n c xs _ (h.up HB5) hn).mono ?_
    rintro e w6 ⟨rfl, ho6, hb6⟩
    have HB6 := bt HB5 hb6
    have S6 := S5.up hb6
    have X6 := X5.up hb6
    have G6 := G5.up hb6
    go_wp2_with fail
    refine (eqIntS_c _ _ _ _ _ _ xs xs _ X6.rd ho6.rd).mono ?_
    rintro e w7 ⟨rfl, m7, rfl⟩
    have HB7 := bd HB6 m7
    have S7 := S6.dn m7
    have X7 := X6.dn m7
    have G7 := G6.dn m7
    have hlG : Hid (nG ≤ 1000000) := by have := G7.len; have := hln.out; unfold Hid; omega
    have hsX : w2.heap.size ≤ (w6.drewN m7).heap.size ∧ w3.heap.size ≤ (w6.drewN m7).heap.size := by
      have := hb6.size
      simp only [World.heap_drewN] at this ⊢
      omega
    clear hb1 hb2 hb3 hb4 hb6 ho1 ho3 ho6 S2 S3 S4 S5 S6 X3 X4 X5 X6 G4 G5 G6 HB2 HB3 HB4 HB5 HB6
    go_wp2_with fail
    refine (markIntS_c _ _ _ 1 _ _ xs _ X7 (by have := hn; omega)).mono ?_
    rintro e w8 ⟨rfl, X8, hc8⟩
    have HB8 := HB7.trans (hc8.below' (B := w.heap.size) (by omega) hsX.1)
    have S8 := S7.chg hc8 (.inl (by omega))
    have G8 := G7.chg hc8 (.inr (by omega))
    go_wp2_with fail
    refine (eqIntS_c _ _ _ _ _ _ (leavesI xs) (leavesI xs) _ G8.rd S8.rd).mono ?_
    rintro e w9 ⟨rfl, m9, rfl⟩
    have HB9 := bd HB8 m9
    have S9 := S8.dn m9
    have G9 := G8.dn m9
    go_wp2_with fail
    refine (markIntS_c _ _ _ 1 _ _ (leavesI xs) _ G9 (by have := hlG.out; omega)).mono ?_
    rintro e w10 ⟨rfl, G10, hc10⟩
    have hsG : w3.heap.size ≤ (w8.drewN m9).heap.size := by
      have := hc8.size
      simp only [World.heap_drewN] at this hsX ⊢
      omega
    have HB10 := HB9.trans (hc10.below' (B := w.heap.size) (by omega) hsG)
    have S10 := S9.chg hc10 (.inl (by omega))
    go_wp2_with fail
    refine (heldIntS_c _ _ _ 1 _ G10.rd (by have := hlG.out; omega)).mono ?_
    rintro e w11 ⟨rfl, rfl⟩
    go_wp2_with fail
    refine (toIntS_c A n c xs _ (h.up HB10) hn).mono ?_
    rintro e w12 ⟨rfl, ho12, hb12⟩
    have HB12 := bt HB10 hb12
    have S12 := S10.up hb12
    have G12 := G10.up hb12
    go_wp2_with fail
    refine (leavesOf_r _ _ _ _ _ ho12.rd).mono ?_
    rintro e w13 ⟨AH, nH, cH, rfl, H13, hb13⟩
    have HB13 := bt HB12 hb13
    have S13 := S12.up hb13
    have G13 := G12.up hb13
    go_wp2_with fail
    refine (eqIntS_c _ _ _ _ _ _ (leavesI xs) (leavesI xs) _ H13.rd S13.rd).mono ?_
    rintro e w14 ⟨rfl, m14, rfl⟩
    go_wp2_with fail
    refine (heldIntS_c _ _ _ 1 _ (G13.dn m14).rd (by have := hlG.out; omega)).mono ?_
    rintro e w15 ⟨rfl, rfl⟩
    go_wp2_with fail
    go_ret
    exact ⟨rfl, bd HB13 m14⟩
end Go.Proofs.Ytlbiioncpeondaa
