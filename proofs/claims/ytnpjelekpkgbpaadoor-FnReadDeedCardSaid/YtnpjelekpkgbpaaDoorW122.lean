/- Walk: the law FnReadDeed. -/
import Derived.Test.YtnpjelekpkgbpaaDoorW120
import Derived.Test.YtnpjelekpkgbpaaDoorW121
namespace Go.Proofs.YtnpjelekpkgbpaaDoor
set_option linter.unusedVariables false
open Go.RowKit

theorem rdV_cases (l : List UInt8) : (∃ kd a b x, rdV l = ((kd, a, b, x), true) ∧ dtL kd a b x = l ∧ l ≠ []) ∨ rdV l = ((0, 0, 0, []), false) := by
  cases h : (rdV l).2 with
  | true =>
    obtain ⟨h0, h1⟩ := rdV_text h
    generalize hr : rdV l = r at *
    obtain ⟨⟨kd, a, b, x⟩, ok⟩ := r
    simp only at h
    subst h
    exact .inl ⟨kd, a, b, x, rfl, h1, h0⟩
  | false =>
    right
    unfold rdV at h ⊢
    cases hw : rdW l with
    | none => rfl
    | some d =>
      obtain ⟨kd, a, b, x⟩ := d
      rw [hw] at h
      simp only at h ⊢
      split at h
      · cases h
      · rename_i h1
        rw [if_neg h1]
set_option maxRecDepth 100000 in
set_option maxHeartbeats 1600000 in
theorem walk_FnReadDeed (A : Option Addr) (n c : Nat) (bs : List Nat) (w : World) (hg : Glo w) (h : RdB w w.heap.size A n c bs) :
    Calls Tryd.prog 8 #[.slice A n c] w fun e w' => e = .returned (.bool true) ∧ Below w.heap.size w w' := by
  have hmx := h.max
  have hcp := h.cap
  unfold maxLen at hmx
  by_cases hbig : 1048576 < n
  · go_enter Tryd.func8, Tryd.ntmps8
    go_wp2_with fail
    go_ret
    exact ⟨rfl, Below.refl _ _⟩
  go_enter Tryd.func8, Tryd.ntmps8
  go_wp2_with fail
  refine (drawReadDeed_c A n c bs _ h).mono ?_
  rintro e w1 ⟨s, rfl, hs, hb1⟩
  have hll : s.data.toList.length = s.size := by rw [Array.length_toList]; rfl
  have hg1 := hg.up hb1
  have K1 := readDeed_c s w1 (by omega) hg1
  have K2 := fun W => sReadDeed_c s.data.toList W (by omega)
  rw [bl_of] at K2
  have hgu : Tryd.prog.eqGuardType Tryd.prog.depth 26 = false := by kernel_rfl
  rcases rdV_cases s.data.toList with ⟨kd, a, b, x, hr, hE, hl0⟩ | hr
  all_goals
    rw [hr] at K1 K2
    unfold RdOut at K1 K2
    simp only at K1 K2
  · have hx : x.length ≤ 20 := by
      have h9 := dt_of (kd := kd) (a := a) (b := b) (l := x) (by rw [hE]; exact hl0)
      generalize dtL kd a b x = t9 at h9
      cases h9 with
      | back => decide
      | lead i j hi hj => decide
      | behind l h => have := tx_len h; omega
      | name l h => have := tx_len h; omega
      | power n h => decide
    have hqn := fun W => neDdSame kd a b (bl x) W
    go_wp2_with fail
    refine K1.mono ?_
    rintro e w2 ⟨rfl, hb2⟩
    have hbA := below_new w2 (.cells #[.int .i64 kd, .int .i64 a, .int .i64 b, .string (bl x)] 26)
    have hF3 := Four.made w2 26 kd a b (bl x)
    have hB3 := bt (bt hb1 hb2) hbA
    clear K1 hb1 hb2 hbA hg1
    go_wp2_with fail
    generalize w2.alloc (.cells #[.int .i64 kd, .int .i64 a, .int .i64 b, .string (bl x)] 26) = w3 at *
    refine (K2 _).mono ?_
    rintro e w4 ⟨rfl, hb4⟩
    have hbA := below_new w4 (.cells #[.int .i64 kd, .int .i64 a, .int .i64 b, .string (bl x)] 26)
    have hF5 := (hF3.up hb4).up hbA
    have hG5 := Four.made w4 26 kd a b (bl x)
    have hB5 := bt (bt hB3 hb4) hbA
    have hg5 := hg.up hB5
    clear K2 hF3 hb4 hbA hB3
    obtain ⟨_, f0, f1, f2, f3⟩ := id hF5
    obtain ⟨_, g0, g1, g2, g3⟩ := id hG5
    have hna : ¬ (9223372036854775807 < s.size + (⟨#[32]⟩ : ByteArray).size) := by rw [show (⟨#[32]⟩ : ByteArray).size = 1 from rfl]; omega
    have K6 := readDeed_c (s ++ ⟨#[32]⟩) _ (by rw [ByteArray.size_append, show (⟨#[32]⟩ : ByteArray).size = 1 from rfl]; omega) hg5
    have hsp : rdV (s ++ (⟨#[32]⟩ : ByteArray)).data.toList = ((0, 0, 0, []), false) := by
      rw [show (s ++ (⟨#[32]⟩ : ByteArray)).data.toList = s.data.toList ++ [32] from by simp]
      exact rdV_space
    rw [hsp] at K6
    unfold RdOut at K6
    simp only at K6
    have hT : dtX kd a b (bl x) = s := by unfold dtX; rw [bl_list, hE, bl_of]
    clear hsp hr hE hl0
    go_wp2_with fail
    clear f0 f1 f2 f3 g0 g1 g2 g3
    generalize w4.alloc (.cells #[.int .i64 kd, .int .i64 a, .int .i64 b, .string (bl x)] 26) = w5 at *
    refine K6.mono ?_
    rintro e w6 ⟨rfl, hb6⟩
    have hbA := below_new w6 (.cells #[.int .i64 0, .int .i64 0, .int .i64 0, .string (bl [])] 26)
    have hF7 := (hF5.up hb6).up hbA
    have hB7 := bt (bt hB5 hb6) hbA
    have hg7 := hg.up hB7
    clear hF5 hG5 hb6 hbA hB5 hg5 K6
    obtain ⟨_, f0, f1, f2, f3⟩ := id hF7
    have K8 := deedText_c kd a b (bl x) _ (by rw [bl_size]; omega) hg7.tab hg7.six
    rw [hT] at K8
    clear hT hF7 hg7
    go_wp2_with fail
    refine K8.mono ?_
    rintro e w8 ⟨rfl, hb8⟩
    have hB8 := bt hB7 hb8
    go_wp2_with fail
    go_ret
    exact ⟨rfl, hB8⟩
  · have hqn := fun W => neDdSame 0 0 0 (⟨#[]⟩ : ByteArray) W
    have hqe := fun W => eqDdSame 0 0 0 (⟨#[]⟩ : ByteArray) W
    rw [show bl [] = (⟨#[]⟩ : ByteArray) from rfl] at K1 K2
    go_wp2_with fail
    refine K1.mono ?_
    rintro e w2 ⟨rfl, hb2⟩
    have hbA := below_new w2 (.cells #[.int .i64 0, .int .i64 0, .int .i64 0, .string ⟨#[]⟩] 26)
    have hF3 := Four.made w2 26 0 0 0 ⟨#[]⟩
    have hB3 := bt (bt hb1 hb2) hbA
    clear K1 hb1 hb2 hbA hg1
    go_wp2_with fail
    generalize w2.alloc (.cells #[.int .i64 0, .int .i64 0, .int .i64 0, .string ⟨#[]⟩] 26) = w3 at *
    refine (K2 _).mono ?_
    rintro e w4 ⟨rfl, hb4⟩
    have hbA := below_new w4 (.cells #[.int .i64 0, .int .i64 0, .int .i64 0, .string ⟨#[]⟩] 26)
    have hF5 := (hF3.up hb4).up hbA
    have hG5 := Four.made w4 26 0 0 0 ⟨#[]⟩
    have hB5 := bt (bt hB3 hb4) hbA
    clear K2 hF3 hb4 hbA hB3
    obtain ⟨_, f0, f1, f2, f3⟩ := id hF5
    obtain ⟨_, g0, g1, g2, g3⟩ := id hG5
    go_wp2_with fail
    refine (alive_c _).mono ?_
    rintro e w6 ⟨rfl, hb6⟩
    have hB6 := bt hB5 hb6
    go_wp2_with fail
    go_ret
    exact ⟨rfl, hB6⟩
end Go.Proofs.YtnpjelekpkgbpaaDoor
