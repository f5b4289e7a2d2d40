/- Walks: the laws FnExactReadDeed, FnDeedText. -/
import Derived.Test.YtnpjelekpkgbpaaDoorW119
import Derived.Laws.StructEq
namespace Go.Proofs.YtnpjelekpkgbpaaDoor
set_option linter.unusedVariables false
open Go.RowKit

theorem inDeed (kd a b kd' a' b' : Int) (s s' : ByteArray) (w : World) : (Op.equalIn 10000 26 (.agg #[.int .i64 kd, .int .i64 a, .int .i64 b, .string s]) (.agg #[.int .i64 kd', .int .i64 a', .int .i64 b', .string s'])).run Tryd.prog w = .ok (decide (kd = kd') && decide (a = a') && decide (b = b') && (s.toList == s'.toList)) w := by
  have u3 := Tryd.underlying3
  have a3 := Tryd.isAgg3
  have z3 := Tryd.sizeOf3
  have u9 := Tryd.underlying9
  have a9 := Tryd.isAgg9
  have z9 := Tryd.sizeOf9
  have hS : Tryd.prog.underlying 26 = some (.struct (Tryd.prog.fieldsOf 26)) := by kernel_rfl
  have hp : Tryd.prog.stoodInHeld 26 = false := by kernel_rfl
  rw [show (10000 : Nat) = 9999 + 1 from rfl, run_equalIn_agg w 9999 26 _ _ hS hp]
  simp only [Program.fieldsOf, Tryd.underlying26]
  go_simp
  by_cases h1 : kd = kd' <;> by_cases h2 : a = a' <;> by_cases h3 : b = b' <;> by_cases h4 : s.toList = s'.toList <;> simp [h1, h2, h3, h4]
theorem eqDdSame (kd a b : Int) (s : ByteArray) (w : World) : (binOp .eql 26 (.agg #[.int .i64 kd, .int .i64 a, .int .i64 b, .string s]) (.agg #[.int .i64 kd, .int .i64 a, .int .i64 b, .string s])).run Tryd.prog w = .ok (.bool true) w := by
  rw [run_eql_struct, inDeed]
  simp
theorem neDdSame (kd a b : Int) (s : ByteArray) (w : World) : (binOp .neq 26 (.agg #[.int .i64 kd, .int .i64 a, .int .i64 b, .string s]) (.agg #[.int .i64 kd, .int .i64 a, .int .i64 b, .string s])).run Tryd.prog w = .ok (.bool false) w := by
  rw [run_neq_struct, inDeed]
  simp
set_option maxRecDepth 100000 in
set_option maxHeartbeats 1600000 in
theorem walk_FnExactReadDeed (s : ByteArray) (w : World) (hg : Glo w) (hs : s.size ≤ maxLen) :
    Calls Tryd.prog 5 #[.string s] w fun e w' => e = .returned (.bool true) ∧ Below w.heap.size w w' := by
  unfold maxLen at hs
  have hll : s.data.toList.length = s.size := by rw [Array.length_toList]; rfl
  by_cases hbig : (1048576 : Int) < (s.size : Int)
  · go_enter Tryd.func5, Tryd.ntmps5
    go_wp2_with fail
    go_ret
    exact ⟨rfl, Below.refl _ _⟩
  have K1 := sReadDeed_c s.data.toList w (by omega)
  rw [bl_of] at K1
  have K2 := fun W (h : Glo W) => readDeed_c s W (by omega) h
  have hh : ∀ (r : Dl × Bool), ∃ kd a b x ok, r = ((kd, a, b, x), ok) := fun ⟨⟨kd, a, b, x⟩, ok⟩ => ⟨kd, a, b, x, ok, rfl⟩
  obtain ⟨kd, a, b, x, ok, hr⟩ := hh (rdV s.data.toList)
  rw [hr] at K1 K2
  unfold RdOut at K1 K2
  simp only at K1 K2
  clear hr hh hll
  go_enter Tryd.func5, Tryd.ntmps5
  go_wp2_with fail
  refine K1.mono ?_
  rintro e w1 ⟨rfl, hb1⟩
  have hbA := below_new w1 (.cells #[.int .i64 kd, .int .i64 a, .int .i64 b, .string (bl x)] 26)
  have hF2 := Four.made w1 26 kd a b (bl x)
  have hB2 := bt hb1 hbA
  have hg2 := hg.up hB2
  clear K1 hb1 hbA
  go_wp2_with fail
  generalize w1.alloc (.cells #[.int .i64 kd, .int .i64 a, .int .i64 b, .string (bl x)] 26) = w2 at *
  refine (K2 _ hg2).mono ?_
  rintro e w3 ⟨rfl, hb3⟩
  have hbA := below_new w3 (.cells #[.int .i64 kd, .int .i64 a, .int .i64 b, .string (bl x)] 26)
  have hF4 := (hF2.up hb3).up hbA
  have hG4 := Four.made w3 26 kd a b (bl x)
  have hB4 := bt (bt hB2 hb3) hbA
  obtain ⟨_, f0, f1, f2, f3⟩ := id hF4
  obtain ⟨_, g0, g1, g2, g3⟩ := id hG4
  have K5 := eqDeed_c (kd, a, b, bl x) (kd, a, b, bl x) (w3.alloc (.cells #[.int .i64 kd, .int .i64 a, .int .i64 b, .string (bl x)] 26))
  rw [eqD_self] at K5
  simp only at K5
  clear K2 hb3 hbA hF2 hg2 hF4 hG4 hg hB2
  go_wp2_with fail
  generalize w3.alloc (.cells #[.int .i64 kd, .int .i64 a, .int .i64 b, .string (bl x)] 26) = w4 at *
  refine K5.mono ?_
  rintro e w5 ⟨rfl, hb5⟩
  have hB5 := bt hB4 hb5
  rcases ok with _ | _
  all_goals
    go_wp2_with fail
    go_ret
    exact ⟨rfl, hB5⟩
set_option maxRecDepth 100000 in
set_option maxHeartbeats 1600000 in
theorem walk_FnDeedText (A : Option Addr) (n c : Nat) (bs : List Nat) (w : World) (hg : Glo w) (h : RdB w w.heap.size A n c bs) :
    Calls Tryd.prog 6 #[.slice A n c] w fun e w' => e = .returned (.bool true) ∧ Below w.heap.size w w' := by
  have hmx := h.max
  have hcp := h.cap
  unfold maxLen at hmx
  by_cases hbig : 1048576 < n
  · go_enter Tryd.func6, Tryd.ntmps6
    go_wp2_with fail
    go_ret
    exact ⟨rfl, Below.refl _ _⟩
  go_enter Tryd.func6, Tryd.ntmps6
  go_wp2_with fail
  refine (drawDeedText_c A n c bs _ h).mono ?_
  rintro e w1 ⟨kd, a, b, s, rfl, hs7, hb1⟩
  have hbA := below_new w1 (.cells #[.int .i64 kd, .int .i64 a, .int .i64 b, .string s] 26)
  have hF2 := Four.made w1 26 kd a b s
  have hB2 := bt hb1 hbA
  have hg2 := hg.up hB2
  obtain ⟨_, f0, f1, f2, f3⟩ := id hF2
  clear hb1 hbA
  go_wp2_with fail
  generalize w1.alloc (.cells #[.int .i64 kd, .int .i64 a, .int .i64 b, .string s] 26) = w2 at *
  refine (deedText_c kd a b s _ (by omega) hg2.tab hg2.six).mono ?_
  rintro e w3 ⟨rfl, hb3⟩
  have hF3 := hF2.up hb3
  have hB3 := bt hB2 hb3
  clear hF2 hb3 f0 f1 f2 f3 hg2 hB2
  obtain ⟨_, f0, f1, f2, f3⟩ := id hF3
  go_wp2_with fail
  refine (sDeedText_c kd a b s _ (by omega)).mono ?_
  rintro e w4 ⟨rfl, hb4⟩
  have hF4 := hF3.up hb4
  have hB4 := bt hB3 hb4
  clear hF3 hb4 f0 f1 f2 f3 hB3
  obtain ⟨_, f0, f1, f2, f3⟩ := id hF4
  by_cases hE : dtL kd a b s.data.toList = []
  · rw [show dtX kd a b s = ⟨#[]⟩ from by unfold dtX; rw [hE]; rfl]
    clear hE
    go_wp2_with fail
    refine (alive_c _).mono ?_
    rintro e w5 ⟨rfl, hb5⟩
    have hB5 := bt hB4 hb5
    go_wp2_with fail
    go_ret
    exact ⟨rfl, hB5⟩
  · have hd := dt_of hE
    have hlen := (dt_len hd).1
    have hX : dtX kd a b s = bl (dtL kd a b s.data.toList) := rfl
    have hV : rdV (dtL kd a b s.data.toList) = ((kd, a, b, s.data.toList), true) := rdV_yes hE rfl
    have hg4 := hg.up hB4
    have K5 := readDeed_c (bl (dtL kd a b s.data.toList)) w4 (by rw [bl_size]; omega) hg4
    rw [bl_list, hV] at K5
    unfold RdOut at K5
    simp only [bl_of] at K5
    rw [hX]
    have qT : ((bl (dtL kd a b s.data.toList)).toList == []) = false := by rw [bl_toList]; exact beqF hE
    have qS : (bl (dtL kd a b s.data.toList)).toList.isEmpty = false := by
      rw [bl_toList]
      cases h9 : dtL kd a b s.data.toList with
      | nil => exact absurd h9 hE
      | cons => rfl
    have qU : ¬ (bl (dtL kd a b s.data.toList)).toList = [] := by rw [bl_toList]; exact hE
    generalize bl (dtL kd a b s.data.toList) = T at *
    have hqe := fun W => eqDdSame kd a b s W
    have hgu : Tryd.prog.eqGuardType Tryd.prog.depth 26 = false := by kernel_rfl
    clear hd hlen hX hV hg4 hE
    go_wp2_with fail
    refine K5.mono ?_
    rintro e w5 ⟨rfl, hb5⟩
    have hbA := below_new w5 (.cells #[.int .i64 kd, .int .i64 a, .int .i64 b, .string s] 26)
    have hF6 := (hF4.up hb5).up hbA
    have hG6 := Four.made w5 26 kd a b s
    have hB6 := bt (bt hB4 hb5) hbA
    clear f0 f1 f2 f3 hF4 hb5 hbA hB4 K5
    obtain ⟨_, f0, f1, f2, f3⟩ := id hF6
    obtain ⟨_, g0, g1, g2, g3⟩ := id hG6
    clear hF6 hG6
    go_wp2_with fail
    go_ret
    exact ⟨rfl, hB6⟩
end Go.Proofs.YtnpjelekpkgbpaaDoor
