/- Bundle V18. -/
import Derived.Test.YtoinlkdmfclnbaaGreatDoorYQ
import Derived.Test.YtoinlkdmfclnbaaGreatDoorYV14
import Derived.Test.YtoinlkdmfclnbaaGreatDoorYV15
import Derived.Test.YtoinlkdmfclnbaaGreatDoorYV9
import Derived.Test.YtoinlkdmfclnbaaGreatDoorYVB
namespace Go.Proofs.YtoinlkdmfclnbaaGreatDoor
set_option linter.unusedVariables false
section
open Go.RowKit
def dtX (kd a b : Int) (s : ByteArray) : ByteArray := bl (dtL kd a b s.data.toList)
theorem rdX_at (s : ByteArray) : ∀ k j, j < k → (rdX s k)[j]? = some (((s.get! j).toNat : Int) - 48)
 | k + 1, j, h => by
  rw [rdX_succ]
  rcases Nat.lt_or_ge j k with h1 | h1
  · rw [List.getElem?_append_left (by rw [rdX_len]; exact h1)]; exact rdX_at s k j h1
  · obtain rfl : j = k := by omega
    rw [List.getElem?_append_right (by rw [rdX_len]; exact Nat.le_refl _), rdX_len, Nat.sub_self]; rfl
theorem rdX_map (s : ByteArray) : rdX s s.size = s.data.toList.map fun b => ((b.toNat : Int) - 48) := by
 apply List.ext_getElem?
 intro j
 by_cases h : j < s.size
 · rw [rdX_at s s.size j h, List.getElem?_map]
   have h' : j < s.data.toList.length := by simpa using h
   rw [List.getElem?_eq_getElem h', byte_get h]
   rfl
 · rw [List.getElem?_eq_none (by rw [rdX_len]; omega), List.getElem?_eq_none]
   rw [List.length_map, Array.length_toList]
   exact Nat.le_of_not_lt h
theorem tx_map (s : ByteArray) : tx s.data.toList = mapOk (rdX s s.size) := by
 rw [rdX_map]
 unfold tx mapOk
 rw [List.length_map]
 congr 1
 unfold allHas
 rw [List.all_map]
 congr 1
 funext b
 unfold hasB
 simp only [Function.comp]
 rw [decide_eq_decide]
 omega
theorem nil_iff {s : ByteArray} : s = ⟨#[]⟩ ↔ s.data.toList = [] := by
 constructor
 · intro h; rw [h]
 · intro h; rw [← bl_of s, h]; rfl
def TextOf (t : ByteArray) (w : World) (e : Ending) (w' : World) : Prop := e = .returned (.string t) ∧ Below w.heap.size w w'
set_option maxRecDepth 100000 in
set_option maxHeartbeats 800000 in
theorem sdt_no (kd a b : Int) (s : ByteArray) (w : World) (hs : s.size ≤ 1000000000000) (hb0 : isBack kd a b s = false)
    (hno : (kd = 0 ∧ ¬ s = ⟨#[]⟩) ∨ (kd = 0 ∧ s = ⟨#[]⟩ ∧ inB a 0 9 = false) ∨ (kd = 0 ∧ s = ⟨#[]⟩ ∧ inB a 0 9 = true ∧ inB b 0 9 = false) ∨
     ((kd = 1 ∨ kd = 3) ∧ mapOk (rdX s s.size) = false) ∨ ((kd = 1 ∨ kd = 3) ∧ mapOk (rdX s s.size) = true ∧ ¬ a = 0) ∨ ((kd = 1 ∨ kd = 3) ∧ mapOk (rdX s s.size) = true ∧ a = 0 ∧ ¬ b = 0) ∨
     (kd = 2 ∧ ¬ s = ⟨#[]⟩) ∨ (kd = 2 ∧ s = ⟨#[]⟩ ∧ ¬ b = 0) ∨ (kd = 2 ∧ s = ⟨#[]⟩ ∧ b = 0 ∧ inB a 0 999999 = false) ∨
     (¬ kd = 0 ∧ ¬ kd = 1 ∧ ¬ kd = 2 ∧ ¬ kd = 3)) :
    Calls Tryz.prog 97 #[.agg #[.int .i64 kd, .int .i64 a, .int .i64 b, .string s]] w (TextOf ⟨#[]⟩ w) := by
 have hqe := fun w => eqBack kd a b s w
 have hgu : Tryz.prog.eqGuardType Tryz.prog.depth 55 = false := by kernel_rfl
 simp only [hb0] at hqe
 clear hb0
 have hF := Four.made w 55 kd a b s
 have hb1 : Below w.heap.size w (w.alloc (.cells #[.int .i64 kd, .int .i64 a, .int .i64 b, .string s] 55)) := (Below.refl _ _).alloc (Nat.le_refl _) _
 have K1 := sReadMap_c s (w.alloc (.cells #[.int .i64 kd, .int .i64 a, .int .i64 b, .string s] 55)) hs
 rcases hno with ⟨rfl, hs0⟩ | ⟨rfl, hs0, hi⟩ | ⟨rfl, hs0, hi, hj⟩ | ⟨rfl | rfl, hok⟩ | ⟨rfl | rfl, hok, ha⟩ | ⟨rfl | rfl, hok, ha, hb⟩ | ⟨rfl, hs0⟩ | ⟨rfl, hs0, hb⟩ | ⟨rfl, hs0, hb, hi⟩ | ⟨h0, h1, h2, h3⟩
 all_goals
  first
   | (rw [hok] at K1; clear hok)
   | (generalize mapOk (rdX s s.size) = ok at K1)
  (try (have q1 := strN hs0; have q2 := strB hs0; clear hs0))
  (try (have q1 := strE hs0; clear hs0))
  (try (have qa := neqz ha; clear ha))
  (try (have qa := eqz ha; clear ha))
  (try (have qb := neqz hb; clear hb))
  (try (have qb := eqz hb; clear hb))
  (try (have q0 := neqz h0; have q4 : (kd == 1) = false := by simpa using h1; have q5 : (kd == 2) = false := by simpa using h2; have q6 : (kd == 3) = false := by simpa using h3; clear h0 h1 h2 h3))
  go_enter Tryz.func97, Tryz.ntmps97
  go_wp2_with fail
  generalize w.alloc (.cells #[.int .i64 _, .int .i64 a, .int .i64 b, .string s] 55) = w1 at *
  refine K1.mono ?_
  rintro e w2 ⟨A1, n1, c1, rfl, hO1, hb2⟩
  obtain ⟨_, k0, k1, k2, k3⟩ := hF.up hb2
  have hB := bt hb1 hb2
  clear K1 hF hb1 hb2 hO1
  have KA := fun h => l1In_c a 0 h w2
  have KB := l1In_c b 0 9 w2
  have KC := l1In_c a 0 9 w2
  have KD := l1In_c a 0 999999 w2
  (try rw [hj] at KB)
  (try rw [hi] at KC)
  (try rw [hi] at KD)
  go_wp2_with (first | (go_at_call 129; with_reducible refine KB.mono ?_; rintro e w' ⟨rfl, rfl⟩) | (go_at_call 129; with_reducible refine KC.mono ?_; rintro e w' ⟨rfl, rfl⟩) | (go_at_call 129; with_reducible refine KD.mono ?_; rintro e w' ⟨rfl, rfl⟩))
  go_ret
  exact ⟨rfl, hB⟩
theorem sdt_back (s : ByteArray) (w : World) (hs : s.size ≤ 1000000000000) (hs0 : s = ⟨#[]⟩) :
    Calls Tryz.prog 97 #[.agg #[.int .i64 4, .int .i64 0, .int .i64 0, .string s]] w (TextOf (bl wBack) w) := by
 have hqe := fun w => eqBack 4 0 0 s w
 have hgu : Tryz.prog.eqGuardType Tryz.prog.depth 55 = false := by kernel_rfl
 have hb0 : isBack 4 0 0 s = true := by unfold isBack; rw [emp_iff.2 hs0]; rfl
 simp only [hb0] at hqe
 clear hb0 hs0
 have hF := Four.made w 55 4 0 0 s
 have hb1 : Below w.heap.size w (w.alloc (.cells #[.int .i64 4, .int .i64 0, .int .i64 0, .string s] 55)) := (Below.refl _ _).alloc (Nat.le_refl _) _
 have K1 := sReadMap_c s (w.alloc (.cells #[.int .i64 4, .int .i64 0, .int .i64 0, .string s] 55)) hs
 generalize mapOk (rdX s s.size) = ok at K1
 go_enter Tryz.func97, Tryz.ntmps97
 go_wp2_with fail
 generalize w.alloc (.cells #[.int .i64 _, .int .i64 0, .int .i64 0, .string s] 55) = w1 at *
 refine K1.mono ?_
 rintro e w2 ⟨A1, n1, c1, rfl, hO1, hb2⟩
 obtain ⟨_, k0, k1, k2, k3⟩ := hF.up hb2
 have hB := bt hb1 hb2
 clear K1 hF hb1 hb2 hO1
 go_wp2_with fail
 go_ret
 exact ⟨rfl, hB⟩
set_option maxRecDepth 100000 in
set_option maxHeartbeats 800000 in
theorem sdt_map (kd : Int) (s : ByteArray) (w : World) (hs : s.size ≤ 1000000000000) (hk : kd = 1 ∨ kd = 3) (hok : mapOk (rdX s s.size) = true) :
    Calls Tryz.prog 97 #[.agg #[.int .i64 kd, .int .i64 0, .int .i64 0, .string s]] w (TextOf (bl ((if kd = 1 then wBehind else wName) ++ [32]) ++ s) w) := by
 rcases hk with rfl | rfl
 all_goals
  first
   | rw [show bl ((if (1 : Int) = 1 then wBehind else wName) ++ [32]) = (⟨#[98, 101, 104, 105, 110, 100, 32]⟩ : ByteArray) from rfl]
   | rw [show bl ((if (3 : Int) = 1 then wBehind else wName) ++ [32]) = (⟨#[110, 97, 109, 101, 32]⟩ : ByteArray) from rfl]
  have hna : ¬ (9223372036854775807 < (⟨#[98, 101, 104, 105, 110, 100, 32]⟩ : ByteArray).size + s.size) := by rw [show (⟨#[98, 101, 104, 105, 110, 100, 32]⟩ : ByteArray).size = 7 from rfl]; omega
  have hnb : ¬ (9223372036854775807 < (⟨#[110, 97, 109, 101, 32]⟩ : ByteArray).size + s.size) := by rw [show (⟨#[110, 97, 109, 101, 32]⟩ : ByteArray).size = 5 from rfl]; omega
 · have hqe := fun w => eqBack 1 0 0 s w
   have hgu : Tryz.prog.eqGuardType Tryz.prog.depth 55 = false := by kernel_rfl
   have hb0 : isBack 1 0 0 s = false := rfl
   simp only [hb0] at hqe
   clear hb0
   have hF := Four.made w 55 1 0 0 s
   have hb1 : Below w.heap.size w (w.alloc (.cells #[.int .i64 1, .int .i64 0, .int .i64 0, .string s] 55)) := (Below.refl _ _).alloc (Nat.le_refl _) _
   have K1 := sReadMap_c s (w.alloc (.cells #[.int .i64 1, .int .i64 0, .int .i64 0, .string s] 55)) hs
   rw [hok] at K1
   clear hok
   go_enter Tryz.func97, Tryz.ntmps97
   go_wp2_with fail
   generalize w.alloc (.cells #[.int .i64 _, .int .i64 0, .int .i64 0, .string s] 55) = w1 at *
   refine K1.mono ?_
   rintro e w2 ⟨A1, n1, c1, rfl, hO1, hb2⟩
   obtain ⟨_, k0, k1, k2, k3⟩ := hF.up hb2
   have hB := bt hb1 hb2
   clear K1 hF hb1 hb2 hO1
   go_wp2_with fail
   go_ret
   exact ⟨rfl, hB⟩
 · have hqe := fun w => eqBack 3 0 0 s w
   have hgu : Tryz.prog.eqGuardType Tryz.prog.depth 55 = false := by kernel_rfl
   have hb0 : isBack 3 0 0 s = false := rfl
   simp only [hb0] at hqe
   clear hb0
   have hF := Four.made w 55 3 0 0 s
   have hb1 : Below w.heap.size w (w.alloc (.cells #[.int .i64 3, .int .i64 0, .int .i64 0, .string s] 55)) := (Below.refl _ _).alloc (Nat.le_refl _) _
   have K1 := sReadMap_c s (w.alloc (.cells #[.int .i64 3, .int .i64 0, .int .i64 0, .string s] 55)) hs
   rw [hok] at K1
   clear hok
   go_enter Tryz.func97, Tryz.ntmps97
   go_wp2_with fail
   generalize w.alloc (.cells #[.int .i64 _, .int .i64 0, .int .i64 0, .string s] 55) = w1 at *
   refine K1.mono ?_
   rintro e w2 ⟨A1, n1, c1, rfl, hO1, hb2⟩
   obtain ⟨_, k0, k1, k2, k3⟩ := hF.up hb2
   have hB := bt hb1 hb2
   clear K1 hF hb1 hb2 hO1
   go_wp2_with fail
   go_ret
   exact ⟨rfl, hB⟩
set_option maxRecDepth 100000 in
set_option maxHeartbeats 800000 in
theorem sdt_power (n : Nat) (s : ByteArray) (w : World) (hs : s.size ≤ 1000000000000) (hs0 : s = ⟨#[]⟩) (hn : n ≤ 999999) :
    Calls Tryz.prog 97 #[.agg #[.int .i64 2, .int .i64 (n : Int), .int .i64 0, .string s]] w (TextOf (bl (wPower ++ [32]) ++ decX n) w) := by
 rw [show bl (wPower ++ [32]) = (⟨#[112, 111, 119, 101, 114, 32]⟩ : ByteArray) from rfl]
 have hqe := fun w => eqBack 2 n 0 s w
 have hgu : Tryz.prog.eqGuardType Tryz.prog.depth 55 = false := by kernel_rfl
 have hb0 : isBack 2 n 0 s = false := rfl
 simp only [hb0] at hqe
 clear hb0
 have q1 := strE hs0
 have hdz := decX_size n
 have hna : ¬ (9223372036854775807 < (⟨#[112, 111, 119, 101, 114, 32]⟩ : ByteArray).size + (decX n).size) := by rw [show (⟨#[112, 111, 119, 101, 114, 32]⟩ : ByteArray).size = 6 from rfl]; omega
 have hF := Four.made w 55 2 n 0 s
 have hb1 : Below w.heap.size w (w.alloc (.cells #[.int .i64 2, .int .i64 (n : Int), .int .i64 0, .string s] 55)) := (Below.refl _ _).alloc (Nat.le_refl _) _
 have K1 := sReadMap_c s (w.alloc (.cells #[.int .i64 2, .int .i64 (n : Int), .int .i64 0, .string s] 55)) hs
 have KN := fun W => l1Number_c n W (by omega)
 generalize mapOk (rdX s s.size) = ok at K1
 generalize decX n = T at *
 clear hs0 hdz
 go_enter Tryz.func97, Tryz.ntmps97
 go_wp2_with fail
 generalize w.alloc (.cells #[.int .i64 _, .int .i64 (n : Int), .int .i64 0, .string s] 55) = w1 at *
 refine K1.mono ?_
 rintro e w2 ⟨A1, n1, c1, rfl, hO1, hb2⟩
 obtain ⟨_, k0, k1, k2, k3⟩ := hF.up hb2
 have hB := bt hb1 hb2
 clear K1 hF hb1 hb2 hO1
 have KD := l1In_c n 0 999999 w2
 rw [show inB (n : Int) 0 999999 = true from by rw [inB_iff]; omega] at KD
 go_wp2_with (first | (go_at_call 129; with_reducible refine KD.mono ?_; rintro e w' ⟨rfl, rfl⟩) | (go_at_call 51; with_reducible refine (KN _).mono ?_; rintro e w3 ⟨rfl, hb3⟩; have hB3 := bt hB hb3))
 go_ret
 exact ⟨rfl, hB3⟩
set_option maxRecDepth 100000 in
set_option maxHeartbeats 800000 in
theorem sdt_lead (i j : Nat) (s : ByteArray) (w : World) (hs : s.size ≤ 1000000000000) (hs0 : s = ⟨#[]⟩) (hi : i ≤ 9) (hj : j ≤ 9) :
    Calls Tryz.prog 97 #[.agg #[.int .i64 0, .int .i64 (i : Int), .int .i64 (j : Int), .string s]] w (TextOf (bl (wLead ++ [32]) ++ decX i ++ bl [32] ++ decX j) w) := by
 rw [show bl (wLead ++ [32]) = (⟨#[108, 101, 97, 100, 32]⟩ : ByteArray) from rfl, show bl [32] = (⟨#[32]⟩ : ByteArray) from rfl]
 have hqe := fun w => eqBack 0 i j s w
 have hgu : Tryz.prog.eqGuardType Tryz.prog.depth 55 = false := by kernel_rfl
 have hb0 : isBack 0 i j s = false := rfl
 simp only [hb0] at hqe
 clear hb0
 have q1 := strE hs0
 have hd1 : (decX i).size = 1 := by rw [decX_small (by omega)]; rfl
 have hd2 : (decX j).size = 1 := by rw [decX_small (by omega)]; rfl
 have hn1 : ¬ (9223372036854775807 < (⟨#[108, 101, 97, 100, 32]⟩ : ByteArray).size + (decX i).size) := by rw [show (⟨#[108, 101, 97, 100, 32]⟩ : ByteArray).size = 5 from rfl]; omega
 have hn2 : ¬ (9223372036854775807 < ((⟨#[108, 101, 97, 100, 32]⟩ : ByteArray) ++ decX i).size + (⟨#[32]⟩ : ByteArray).size) := by rw [ByteArray.size_append, show (⟨#[108, 101, 97, 100, 32]⟩ : ByteArray).size = 5 from rfl, show (⟨#[32]⟩ : ByteArray).size = 1 from rfl]; omega
 have hn3 : ¬ (9223372036854775807 < ((⟨#[108, 101, 97, 100, 32]⟩ : ByteArray) ++ decX i ++ ⟨#[32]⟩).size + (decX j).size) := by rw [ByteArray.size_append, ByteArray.size_append, show (⟨#[108, 101, 97, 100, 32]⟩ : ByteArray).size = 5 from rfl, show (⟨#[32]⟩ : ByteArray).size = 1 from rfl]; omega
 have hF := Four.made w 55 0 i j s
 have hb1 : Below w.heap.size w (w.alloc (.cells #[.int .i64 0, .int .i64 (i : Int), .int .i64 (j : Int), .string s] 55)) := (Below.refl _ _).alloc (Nat.le_refl _) _
 have K1 := sReadMap_c s (w.alloc (.cells #[.int .i64 0, .int .i64 (i : Int), .int .i64 (j : Int), .string s] 55)) hs
 have KI := fun W => l1Number_c i W (by omega)
 have KJ := fun W => l1Number_c j W (by omega)
 generalize mapOk (rdX s s.size) = ok at K1
 generalize decX i = T at *
 generalize decX j = U at *
 clear hs0
 go_enter Tryz.func97, Tryz.ntmps97
 go_wp2_with fail
 generalize w.alloc (.cells #[.int .i64 _, .int .i64 (i : Int), .int .i64 (j : Int), .string s] 55) = w1 at *
 refine K1.mono ?_
 rintro e w2 ⟨A1, n1, c1, rfl, hO1, hb2⟩
 obtain ⟨hlt, k0, k1, k2, k3⟩ := hF.up hb2
 have hB := bt hb1 hb2
 clear K1 hF hb1 hb2 hO1
 have KA := l1In_c i 0 9 w2
 rw [show inB (i : Int) 0 9 = true from by rw [inB_iff]; omega] at KA
 have KB := l1In_c j 0 9 w2
 rw [show inB (j : Int) 0 9 = true from by rw [inB_iff]; omega] at KB
 go_wp2_with (first | (go_at_call 129; with_reducible refine KA.mono ?_; rintro e w' ⟨rfl, rfl⟩) | (go_at_call 129; with_reducible refine KB.mono ?_; rintro e w' ⟨rfl, rfl⟩))
 clear KA KB
 have HF0 : Hid (Four w2.drew w.heap.size 0 i j s) := Lib.hid ⟨hlt, k0, k1, k2, k3⟩
 have HB0 : Hid (Below w.heap.size w w2.drew) := Lib.hid (bd hB 1)
 clear hB
 go_region_held3 (fun w' => World.cell? w' ⟨w.heap.size, 1, none⟩ = some (.int .i64 (i : Int)) ∧ World.cell? w' ⟨w.heap.size, 2, none⟩ = some (.int .i64 (j : Int)))
  (first
   | exact ⟨HF0.out.2.2.1, HF0.out.2.2.2.1⟩
   | exact ⟨HF3.out.2.2.1, HF3.out.2.2.2.1⟩
   | exact ⟨HF4.out.2.2.1, HF4.out.2.2.2.1⟩)
  (first
   | (go_at_call_of 51 (Value.int IntKind.i64 (i : Int)); with_reducible refine (KI _).mono ?_; rintro e w3 ⟨rfl, hb3⟩; have HB3 := Lib.hid (bt HB0.out hb3); have HF3 := Lib.hid (HF0.out.up hb3))
   | (go_at_call_of 51 (Value.int IntKind.i64 (j : Int)); with_reducible refine (KJ _).mono ?_; rintro e w4 ⟨rfl, hb4⟩; have HB4 := Lib.hid (bt HB3.out hb4); have HF4 := Lib.hid (HF3.out.up hb4)))
 all_goals
  go_wp2_with fail
  go_ret
  exact ⟨rfl, HB4.out⟩
theorem sDeedText_c (kd a b : Int) (s : ByteArray) (w : World) (hs : s.size ≤ 1000000000000) :
    Calls Tryz.prog 97 #[.agg #[.int .i64 kd, .int .i64 a, .int .i64 b, .string s]] w (TextOf (dtX kd a b s) w) := by
 have hE : ∀ {l : List UInt8}, dtL kd a b s.data.toList = l → dtX kd a b s = bl l := fun h => by unfold dtX; rw [h]
 rcases hb0 : isBack kd a b s with _ | _
 · have hbk : ¬ (kd = 4 ∧ a = 0 ∧ b = 0 ∧ s.data.toList = []) := by
    rintro ⟨h1, h2, h3, h4⟩
    rw [← nil_iff] at h4
    unfold isBack at hb0
    rw [decide_eq_true h1, decide_eq_true h2, decide_eq_true h3, emp_iff.2 h4] at hb0
    cases hb0
   by_cases h0 : kd = 0
   · subst h0
     by_cases hs0 : s = ⟨#[]⟩
     · have hl := nil_iff.1 hs0
       rcases ha : inB a 0 9 with _ | _
       · rw [hE (l := []) (by unfold dtL; rw [if_neg (by omega), if_neg, if_neg (by omega), if_neg (by omega), if_neg (by omega)]; rintro ⟨_, _, h9, _⟩; rw [← inB_iff, ha] at h9; cases h9)]
         exact sdt_no 0 a b s w hs hb0 (.inr (.inl ⟨rfl, hs0, ha⟩))
       · rcases hb : inB b 0 9 with _ | _
         · rw [hE (l := []) (by unfold dtL; rw [if_neg (by omega), if_neg, if_neg (by omega), if_neg (by omega), if_neg (by omega)]; rintro ⟨_, _, _, h9⟩; rw [← inB_iff, hb] at h9; cases h9)]
           exact sdt_no 0 a b s w hs hb0 (.inr (.inr (.inl ⟨rfl, hs0, ha, hb⟩)))
         · rw [inB_iff] at ha hb
           obtain ⟨i, rfl⟩ := Int.eq_ofNat_of_zero_le ha.1
           obtain ⟨j, rfl⟩ := Int.eq_ofNat_of_zero_le hb.1
           have h9 := of_dt (DT.lead i j (by omega) (by omega))
           rw [hE (l := wLead ++ 32 :: (Lib.decDigits i ++ 32 :: Lib.decDigits j)) (by rw [hl]; exact h9)]
           rw [show bl (wLead ++ 32 :: (Lib.decDigits i ++ 32 :: Lib.decDigits j)) = bl (wLead ++ [32]) ++ decX i ++ bl [32] ++ decX j by unfold decX; rw [bl_app, bl_app, bl_app]; simp]
           exact sdt_lead i j s w hs hs0 (by omega) (by omega)
     · rw [hE (l := []) (by unfold dtL; rw [if_neg (by omega), if_neg (fun h => hs0 (nil_iff.2 h.2.1)), if_neg (by omega), if_neg (by omega), if_neg (by omega)])]
       exact sdt_no 0 a b s w hs hb0 (.inl ⟨rfl, hs0⟩)
   by_cases h13 : kd = 1 ∨ kd = 3
   · rcases hok : mapOk (rdX s s.size) with _ | _
     · have hok' : ¬ tx s.data.toList = true := by rw [tx_map, hok]; simp
       rw [hE (l := []) (by unfold dtL; rw [if_neg (by omega), if_neg (by omega), if_neg (fun h => hok' h.2.1), if_neg (fun h => hok' h.2.1), if_neg (by omega)])]
       exact sdt_no kd a b s w hs hb0 (.inr (.inr (.inr (.inl ⟨h13, hok⟩))))
     · by_cases ha : a = 0
       · by_cases hb : b = 0
         · subst ha
           subst hb
           have htx : tx s.data.toList = true := by rw [tx_map, hok]
           have h9 : dtX kd 0 0 s = bl ((if kd = 1 then wBehind else wName) ++ [32]) ++ s := by
            rcases h13 with rfl | rfl
            · rw [hE (of_dt (DT.behind _ htx)), if_pos rfl]
              conv => rhs; rw [← bl_of s, bl_app]
              simp
            · rw [hE (of_dt (DT.name _ htx)), if_neg (by omega)]
              conv => rhs; rw [← bl_of s, bl_app]
              simp
           rw [h9]
           exact sdt_map kd s w hs h13 hok
         · rw [hE (l := []) (by unfold dtL; rw [if_neg (by omega), if_neg (by omega), if_neg (by omega), if_neg (by omega), if_neg (by omega)])]
           exact sdt_no kd a b s w hs hb0 (.inr (.inr (.inr (.inr (.inr (.inl ⟨h13, hok, ha, hb⟩))))))
       · rw [hE (l := []) (by unfold dtL; rw [if_neg (by omega), if_neg (by omega), if_neg (by omega), if_neg (by omega), if_neg (by omega)])]
         exact sdt_no kd a b s w hs hb0 (.inr (.inr (.inr (.inr (.inl ⟨h13, hok, ha⟩)))))
   by_cases h2 : kd = 2
   · subst h2
     by_cases hs0 : s = ⟨#[]⟩
     · have hl := nil_iff.1 hs0
       by_cases hb : b = 0
       · subst hb
         rcases ha : inB a 0 999999 with _ | _
         · rw [hE (l := []) (by unfold dtL; rw [if_neg (by omega), if_neg (by omega), if_neg (by omega), if_neg (by omega), if_neg]; rintro ⟨_, _, _, h9⟩; rw [← inB_iff, ha] at h9; cases h9)]
           exact sdt_no 2 a 0 s w hs hb0 (.inr (.inr (.inr (.inr (.inr (.inr (.inr (.inr (.inl ⟨rfl, hs0, rfl, ha⟩)))))))))
         · rw [inB_iff] at ha
           obtain ⟨n, rfl⟩ := Int.eq_ofNat_of_zero_le ha.1
           have h9 := of_dt (DT.power n (by omega))
           rw [hE (l := wPower ++ 32 :: Lib.decDigits n) (by rw [hl]; exact h9)]
           rw [show bl (wPower ++ 32 :: Lib.decDigits n) = bl (wPower ++ [32]) ++ decX n by unfold decX; rw [bl_app]; simp]
           exact sdt_power n s w hs hs0 (by omega)
       · rw [hE (l := []) (by unfold dtL; rw [if_neg (by omega), if_neg (by omega), if_neg (by omega), if_neg (by omega), if_neg (by omega)])]
         exact sdt_no 2 a b s w hs hb0 (.inr (.inr (.inr (.inr (.inr (.inr (.inr (.inl ⟨rfl, hs0, hb⟩))))))))
     · rw [hE (l := []) (by unfold dtL; rw [if_neg (by omega), if_neg (by omega), if_neg (by omega), if_neg (by omega), if_neg (fun h => hs0 (nil_iff.2 h.2.1))])]
       exact sdt_no 2 a b s w hs hb0 (.inr (.inr (.inr (.inr (.inr (.inr (.inl ⟨rfl, hs0⟩)))))))
   · rw [hE (l := []) (by unfold dtL; rw [if_neg hbk, if_neg (by omega), if_neg (by omega), if_neg (by omega), if_neg (by omega)])]
     exact sdt_no kd a b s w hs hb0 (.inr (.inr (.inr (.inr (.inr (.inr (.inr (.inr (.inr ⟨h0, fun h => h13 (.inl h), h2, fun h => h13 (.inr h)⟩)))))))))
 · unfold isBack at hb0
   simp only [Bool.and_eq_true, decide_eq_true_eq] at hb0
   obtain ⟨⟨⟨rfl, rfl⟩, rfl⟩, h4⟩ := hb0
   have hs0 := emp_iff.1 h4
   rw [hE (l := wBack) (by rw [nil_iff.1 hs0]; rfl)]
   exact sdt_back s w hs hs0
end
section
open Go.RowKit
def frDd (d : Dd) : Dl := (d.1, d.2.1, d.2.2.1, d.2.2.2.data.toList)
theorem dtX_fr (kd a b : Int) (s : ByteArray) : dtX kd a b s = bl (dtD (frDd (kd, a, b, s))) := rfl
end
section
open Go.RowKit
def gT (ts : List ByteArray) (k : Nat) : ByteArray := ts.getD k ⟨#[]⟩
theorem gT_get {ts : List ByteArray} {k : Nat} (h : k < ts.length) : gT ts k = ts[k] := by simp [gT, List.getD, List.getElem?_eq_getElem h]
def RdT (w : World) (B : Nat) (A : Option Addr) (n c : Nat) (ts : List ByteArray) : Prop :=
 ts.length = n ∧ n ≤ c ∧ c ≤ maxLen ∧ (0 < n → ∃ b off, A = some ⟨b, off, none⟩ ∧ b < B ∧ ∀ k, k < n → w.cell? ⟨b, off + k, none⟩ = some (.string (gT ts k)))
def OwnS (w : World) (B : Nat) (v : Value) (ts : List ByteArray) : Prop := w.ownsRow B 9 1 v ts.length (ts.map Value.string)
section
variable {w w' : World} {B B' n c lo hi : Nat} {A : Option Addr} {ts : List ByteArray} {v : Value}
theorem RdT.len (h : RdT w B A n c ts) : ts.length = n := h.1
theorem RdT.cap (h : RdT w B A n c ts) : n ≤ c := h.2.1
theorem RdT.max (h : RdT w B A n c ts) : c ≤ maxLen := h.2.2.1
theorem RdT.at_ (h : RdT w B A n c ts) {k : Nat} (hk : k < n) : ∃ b off, A = some ⟨b, off, none⟩ ∧ b < B ∧ w.cell? ⟨b, off + k, none⟩ = some (.string (gT ts k)) := by
 obtain ⟨b, off, e, hb, hc⟩ := h.2.2.2 (by omega)
 exact ⟨b, off, e, hb, hc k hk⟩
theorem RdT.nil_ (w : World) (B : Nat) : RdT w B none 0 0 [] := ⟨rfl, Nat.le_refl _, Nat.zero_le _, fun h => absurd h (by omega)⟩
theorem RdT.keep (h : RdT w B A n c ts) (hk : ∀ p : Addr, p.block < B → w'.cell? p = w.cell? p) : RdT w' B A n c ts :=
 ⟨h.1, h.2.1, h.2.2.1, fun hn => by
  obtain ⟨b, off, e, hb, hc⟩ := h.2.2.2 hn
  exact ⟨b, off, e, hb, fun k hk' => (hk _ hb).trans (hc k hk')⟩⟩
theorem RdT.more (h : RdT w B A n c ts) (hB : B ≤ B') : RdT w B' A n c ts :=
 ⟨h.1, h.2.1, h.2.2.1, fun hn => by
  obtain ⟨b, off, e, hb, hc⟩ := h.2.2.2 hn
  exact ⟨b, off, e, by omega, hc⟩⟩
theorem RdT.below (h : RdT w B A n c ts) (hb : Below B w w') : RdT w' B A n c ts := h.keep fun _ hp => hb.cell hp
theorem RdT.up (h : RdT w w.heap.size A n c ts) (hb : Below w.heap.size w w') : RdT w' w'.heap.size A n c ts := (h.below hb).more hb.size
theorem RdT.dn (h : RdT w w.heap.size A n c ts) (m : Nat) : RdT (w.drewN m) (w.drewN m).heap.size A n c ts := h.keep fun _ _ => rfl
theorem OwnS.nil_ (w : World) (B : Nat) : OwnS w B (.slice none 0 0) [] := World.ownsRow_nil _ _ _ _
theorem OwnS.made (w : World) (B : Nat) (cur : Array Value) (hB : B ≤ w.heap.size) (hs : cur.size = 0) : OwnS (w.alloc (.cells cur 9)) B (.slice (some ⟨w.heap.size, 0, none⟩) 0 0) [] :=
 World.ownsRow_made w cur 0 hB (Nat.zero_le _) (by simpa using hs)
theorem OwnS.up (h : OwnS w B v ts) (hb : Below w.heap.size w w') : OwnS w' B v ts := by
 refine ⟨h.1, ?_⟩
 rcases h.2 with h0 | ⟨g, cap, cur, e, hg, hh, r⟩
 · exact .inl h0
 · exact .inr ⟨g, cap, cur, e, hg, by rw [hb.block g (Array.getElem?_eq_some_iff.1 hh).1]; exact hh, r⟩
theorem OwnS.lt (h : OwnS w B v ts) : ∀ k, v.ownBlock = some k → B ≤ k ∧ k < w.heap.size := fun k hk => World.ownsRow.lt h k hk
theorem OwnS.slice_ (h : OwnS w B v ts) : ∃ A c, v = .slice A ts.length c ∧ RdT w w.heap.size A ts.length c ts := by
 have hh := h
 rcases h.2 with ⟨rfl, h0⟩ | ⟨g, cap, cur, rfl, hb, hg, hnc, hcm, hcs, ht⟩
 · rw [h0]; exact ⟨none, 0, rfl, by rw [List.length_eq_zero_iff.1 h0]; exact RdT.nil_ _ _⟩
 · refine ⟨_, _, rfl, rfl, hnc, hcm, fun _ => ⟨g, 0, rfl, (Array.getElem?_eq_some_iff.1 hg).1, fun k hk => ?_⟩⟩
   have := World.ownsRow.cellAt hh k (by simpa using hk)
   rw [Nat.zero_add, this]
   simp [gT, List.getD, List.getElem?_eq_getElem hk]
end
theorem text_info : (Tryz.prog.info? 9).map (fun i => (i.zero, i.size, i.bytes)) = some (some (.string ⟨#[]⟩), 1, 16) := by kernel_rfl
theorem app_text {ops : Array Oper} {rest : List Oper} {o : Oper} {a : Act} {Q : Exit → Act → World → Prop} (w : World) (y : ByteArray) (hgd : o.guard = none) (s x : Operand)
    (ho : o.op = .call { callee := .builtin .append, args := #[s, x], argTypes := #[34, 34] })
    (B : Nat) (v : Value) (ts : List ByteArray) (hs : a.eval s = v) (hown : OwnS w B v ts) (hx : a.eval x = .slice (some ⟨w.heap.size, 0, none⟩) 1 1)
    (hlen : ts.length ≤ 1000000000000) (hB : B ≤ w.heap.size)
    (h : ∀ v' w', OwnS w' B v' (ts ++ [y]) → Below B w w' → wpList Tryz.prog ops Q rest (a.put o.dst v') w') :
    wpList Tryz.prog ops Q (o :: rest) a (w.alloc (.cells #[.string y] 9)) := by
 obtain ⟨i0, hi, hz0, hz1, hz2⟩ := info_parts text_info
 refine wpList_append_own _ hgd s x 34 ho B 9 i0 (.string ⟨#[]⟩) 1 16 Tryz.underlying34 hi hz0 hz1 hz2 rfl (by decide) v ts.length (ts.map Value.string) hs (hown.alloc _) ⟨w.heap.size, 0, none⟩ 1 1 [.string y] hx rfl (cell_one_new _ _ _) (by simp [Value.oneCell']) (by unfold maxLen; omega) (by omega) (by simp; omega) ?_
 intro v' w' hown' hg _
 refine h v' w' ?_ ?_
 · unfold OwnS
   rw [List.length_append, List.map_append]
   exact hown'
 · refine ((Below.refl B w).alloc hB _).grown hg (by simp; omega) (fun k hk => (hown.lt k hk).1)
end
section
open Go.RowKit
def RdOut (r : Dl × Bool) (w : World) (e : Ending) (w' : World) : Prop :=
 e = .returned (.tuple #[.agg #[.int .i64 r.1.1, .int .i64 r.1.2.1, .int .i64 r.1.2.2.1, .string (bl r.1.2.2.2)], .bool r.2]) ∧ Below w.heap.size w w'
theorem beqF {a b : List UInt8} (h : a ≠ b) : (a == b) = false := beq_eq_false_iff_ne.2 h
theorem bl_toList (l : List UInt8) : (bl l).toList = l := by rw [ByteArray.toList_eq, bl_list]
theorem digs_no1 {l : List UInt8} (h : ¬ (1 ≤ l.length ∧ l.length ≤ 6)) : digs l = -1 := by unfold digs; rw [if_neg (fun h' => h ⟨h'.1, h'.2.1⟩)]
theorem digs_no2 {l : List UInt8} (h : 1 < l.length ∧ l.head? = some 48) : digs l = -1 := by unfold digs; rw [if_neg (fun h' => h'.2.2 h)]
theorem digs_no3 {l : List UInt8} (h : Lib.decFrom 0 l = none) : digs l = -1 := by unfold digs; split <;> simp [h]
theorem digs_yes {l : List UInt8} {n : Nat} (h1 : 1 ≤ l.length ∧ l.length ≤ 6) (h2 : ¬ (1 < l.length ∧ l.head? = some 48)) (h : Lib.decFrom 0 l = some n) : digs l = n := by
 unfold digs; rw [if_pos ⟨h1.1, h1.2, h2⟩, h]
theorem decFrom_bad {l : List UInt8} {k : Nat} {b : UInt8} (hk : l[k]? = some b) (hd : Lib.digitVal b = none) : Lib.decFrom 0 l = none := by
 cases h : Lib.decFrom 0 l with
 | none => rfl
 | some n =>
  obtain ⟨d, h1⟩ := Lib.digit_of_decFrom l 0 n h k b hk
  rw [hd] at h1
  cases h1
theorem decFrom_le {l : List UInt8} {n : Nat} (h : Lib.decFrom 0 l = some n) (hl : l.length ≤ 6) : n ≤ 999999 := by
 have h1 := Lib.decFrom_lt l 0 n h
 have h2 : (10 : Nat) ^ l.length ≤ 10 ^ 6 := Nat.pow_le_pow_right (by omega) hl
 omega
theorem byte_at {s : ByteArray} {k : Nat} (hk : k < s.size) : s.data.toList[k]? = some (s.get! k) := by
 rw [byte_get hk, Array.getElem?_toList]
 exact Array.getElem?_eq_getElem hk
set_option maxRecDepth 100000 in
set_option maxHeartbeats 1600000 in
theorem l1Digits_c (s : ByteArray) (w : World) (hsz : s.size ≤ 1000000000000) :
    Calls Tryz.prog 63 #[.string s] w fun e w' => e = .returned (.int .i64 (digs s.data.toList)) ∧ w = w' := by
 have hll : s.data.toList.length = s.size := by rw [Array.length_toList]; rfl
 have hidx : ∀ k W, k < s.size → (Instr.index 9 (.string s) (.int .i64 (k : Int))).run Tryz.prog W = .ok (.int .u8 ((s.get! k).toNat : Int)) W := fun k W hk => by
  rw [run_index_string _ _ _ _ _ Tryz.underlying9]
  rw [dif_pos ⟨by omega, by omega⟩]
  rw [byte_get hk]
  rfl
 by_cases h16 : 1 ≤ s.size ∧ s.size ≤ 6
 · have K1 := l1In_c (s.size : Int) 1 6 w
   rw [show inB (s.size : Int) 1 6 = true from by rw [inB_iff]; omega] at K1
   have hi0 := hidx 0 w (by omega)
   have hb0 := byte_at (s := s) (k := 0) (by omega)
   rw [show (((0 : Nat) : Int)) = 0 from rfl] at hi0
   by_cases h0 : 1 < s.size ∧ s.get! 0 = 48
   · have HD : Hid (digs s.data.toList = -1) := Lib.hid (digs_no2 ⟨by rw [hll]; exact h0.1, by rw [List.head?_eq_getElem?, hb0, h0.2]⟩)
     rw [h0.2] at hi0
     have hi1 : (1 : Int) < (s.size : Int) := by omega
     have hi00 : (Instr.index 9 (.string s) (.int .i64 0)).run Tryz.prog w = .ok (.int .u8 48) w := hi0
     clear hb0 hi0 hidx
     go_enter Tryz.func63, Tryz.ntmps63
     go_wp2_with (go_at_call 129; with_reducible refine K1.mono ?_; rintro e w' ⟨rfl, rfl⟩)
     go_ret
     exact ⟨by rw [HD.out]; rfl, rfl⟩
   · have h0' : ¬ (1 < s.data.toList.length ∧ s.data.toList.head? = some 48) := by
      rw [hll, List.head?_eq_getElem?, hb0]
      rintro ⟨a, b⟩
      exact h0 ⟨a, Option.some.inj b⟩
     have hq : (1 : Int) < (s.size : Int) → (((s.get! 0).toNat : Int) == 48) = false := fun h1 => by
      rw [beq_eq_false_iff_ne]
      intro h2
      exact h0 ⟨by omega, UInt8.toNat_inj.1 (by have : (48 : UInt8).toNat = 48 := rfl; omega)⟩
     have H0 := Lib.hid h0'
     generalize ((s.get! 0).toNat : Int) = y0 at hi0 hq
     clear hb0 h0 h0'
     go_enter Tryz.func63, Tryz.ntmps63
     have hc1 : s.size = 1 ∨ 1 < s.size := by omega
     rcases hc1 with hc1 | hc1
     · have hi1 : ¬ (1 : Int) < (s.size : Int) := by omega
       clear hc1
       go_wp2_with (go_at_call 129; with_reducible refine K1.mono ?_; rintro e w' ⟨rfl, rfl⟩)
       go_loopw [3, 4] (fun t i wr => ∃ (k n : Nat), k ≤ s.size ∧ i = .int .i64 k ∧ t = .int .i64 (n : Int) ∧ Lib.decFrom 0 (s.data.toList.take k) = some n ∧ wr = w) (fun _ i _ => s.size - (intOf i).toNat)
       case atStart => exact ⟨0, 0, Nat.zero_le _, rfl, rfl, rfl, rfl⟩
       case round =>
        obtain ⟨k, n, hk, rfl, rfl, hn, rfl⟩ := hrel
        by_cases hlt : k < s.size
        · have hn6 := decFrom_le hn (by rw [List.length_take]; omega)
          have hb := byte_at hlt
          have hik := hidx k wr hlt
          have hy := (s.get! k).toNat_lt
          clear hidx hi0 hq
          by_cases hd : 48 ≤ (s.get! k).toNat ∧ (s.get! k).toNat ≤ 57
          · have HT := Lib.hid (Lib.decFrom_take s.data.toList k 0 n _ ((s.get! k).toNat - 48) hn hb (by unfold Lib.digitVal; rw [if_pos hd]))
            generalize (s.get! k).toNat = y at *
            have hy1 : ¬ (y : Int) < 48 := by omega
            have hy2 : ¬ (57 : Int) < (y : Int) := by omega
            have hw0 : wrap64 (10 * (n : Int)) = 10 * (n : Int) := by simp [wrap64]; omega
            have hw1 : IntKind.u8.wrap ((y : Int) - 48) = (y : Int) - 48 := IntWalk.u8_in _ (by omega)
            have hw2 : wrap64 (10 * (n : Int) + ((y : Int) - 48)) = 10 * (n : Int) + ((y : Int) - 48) := by simp [wrap64]; omega
            have hw3 : wrap64 ((y : Int) - 48) = (y : Int) - 48 := by simp [wrap64]; omega
            have hd2 : 48 ≤ y ∧ y ≤ 57 := hd
            clear hn hb hd
            go_wp2_with fail
            go_roundw
            case rel => exact ⟨k + 1, n * 10 + (y - 48), by omega, by go_num, by congr 1; omega, HT.out, trivial⟩
            case measure => simp [intOf]; omega
          · have HD := Lib.hid (digs_no3 (decFrom_bad hb (by unfold Lib.digitVal; rw [if_neg hd])))
            generalize (s.get! k).toNat = y at *
            have hdd : y < 48 ∨ (¬ y < 48 ∧ 57 < y) := by omega
            clear hn hb hd
            rcases hdd with hdd | ⟨hdd, hdd2⟩
            · have hy1 : (y : Int) < 48 := by omega
              go_wp2_with fail
              go_ret
              exact ⟨by rw [HD.out]; rfl, rfl⟩
            · have hy1 : ¬ (y : Int) < 48 := by omega
              have hy2 : (57 : Int) < (y : Int) := by omega
              go_wp2_with fail
              go_ret
              exact ⟨by rw [HD.out]; rfl, rfl⟩
        · obtain rfl : k = s.size := by omega
          have HD := Lib.hid (digs_yes (by rw [hll]; exact h16) H0.out (by rw [List.take_of_length_le (by omega)] at hn; exact hn))
          clear hn
          go_wp2_with fail
          go_ret
          exact ⟨by rw [HD.out]; rfl, rfl⟩
     · have hi1 : (1 : Int) < (s.size : Int) := by omega
       have hq1 := hq hi1
       clear hc1
       go_wp2_with (go_at_call 129; with_reducible refine K1.mono ?_; rintro e w' ⟨rfl, rfl⟩)
       go_loopw [3, 4] (fun t i wr => ∃ (k n : Nat), k ≤ s.size ∧ i = .int .i64 k ∧ t = .int .i64 (n : Int) ∧ Lib.decFrom 0 (s.data.toList.take k) = some n ∧ wr = w) (fun _ i _ => s.size - (intOf i).toNat)
       case atStart => exact ⟨0, 0, Nat.zero_le _, rfl, rfl, rfl, rfl⟩
       case round =>
        obtain ⟨k, n, hk, rfl, rfl, hn, rfl⟩ := hrel
        by_cases hlt : k < s.size
        · have hn6 := decFrom_le hn (by rw [List.length_take]; omega)
          have hb := byte_at hlt
          have hik := hidx k wr hlt
          have hy := (s.get! k).toNat_lt
          clear hidx hi0 hq
          by_cases hd : 48 ≤ (s.get! k).toNat ∧ (s.get! k).toNat ≤ 57
          · have HT := Lib.hid (Lib.decFrom_take s.data.toList k 0 n _ ((s.get! k).toNat - 48) hn hb (by unfold Lib.digitVal; rw [if_pos hd]))
            generalize (s.get! k).toNat = y at *
            have hy1 : ¬ (y : Int) < 48 := by omega
            have hy2 : ¬ (57 : Int) < (y : Int) := by omega
            have hw0 : wrap64 (10 * (n : Int)) = 10 * (n : Int) := by simp [wrap64]; omega
            have hw1 : IntKind.u8.wrap ((y : Int) - 48) = (y : Int) - 48 := IntWalk.u8_in _ (by omega)
            have hw2 : wrap64 (10 * (n : Int) + ((y : Int) - 48)) = 10 * (n : Int) + ((y : Int) - 48) := by simp [wrap64]; omega
            have hw3 : wrap64 ((y : Int) - 48) = (y : Int) - 48 := by simp [wrap64]; omega
            have hd2 : 48 ≤ y ∧ y ≤ 57 := hd
            clear hn hb hd
            go_wp2_with fail
            go_roundw
            case rel => exact ⟨k + 1, n * 10 + (y - 48), by omega, by go_num, by congr 1; omega, HT.out, trivial⟩
            case measure => simp [intOf]; omega
          · have HD := Lib.hid (digs_no3 (decFrom_bad hb (by unfold Lib.digitVal; rw [if_neg hd])))
            generalize (s.get! k).toNat = y at *
            have hdd : y < 48 ∨ (¬ y < 48 ∧ 57 < y) := by omega
            clear hn hb hd
            rcases hdd with hdd | ⟨hdd, hdd2⟩
            · have hy1 : (y : Int) < 48 := by omega
              go_wp2_with fail
              go_ret
              exact ⟨by rw [HD.out]; rfl, rfl⟩
            · have hy1 : ¬ (y : Int) < 48 := by omega
              have hy2 : (57 : Int) < (y : Int) := by omega
              go_wp2_with fail
              go_ret
              exact ⟨by rw [HD.out]; rfl, rfl⟩
        · obtain rfl : k = s.size := by omega
          have HD := Lib.hid (digs_yes (by rw [hll]; exact h16) H0.out (by rw [List.take_of_length_le (by omega)] at hn; exact hn))
          clear hn
          go_wp2_with fail
          go_ret
          exact ⟨by rw [HD.out]; rfl, rfl⟩
 · have K1 := l1In_c (s.size : Int) 1 6 w
   rw [show inB (s.size : Int) 1 6 = false from by unfold inB; rw [decide_eq_false]; omega] at K1
   have HD : Hid (digs s.data.toList = -1) := Lib.hid (digs_no1 (by rw [hll]; exact h16))
   clear hidx
   go_enter Tryz.func63, Tryz.ntmps63
   go_wp2_with (go_at_call 129; with_reducible refine K1.mono ?_; rintro e w' ⟨rfl, rfl⟩)
   go_ret
   exact ⟨by rw [HD.out]; rfl, rfl⟩
theorem idx_bl (l : List UInt8) (k : Nat) (W : World) (hk : k < l.length) : (Instr.index 9 (.string (bl l)) (.int .i64 (k : Int))).run Tryz.prog W = .ok (.int .u8 (((l.getD k 0).toNat : Nat) : Int)) W := by
 rw [run_index_string _ _ _ _ _ Tryz.underlying9]
 rw [dif_pos ⟨by omega, by rw [bl_size]; omega⟩]
 have e : l.getD k 0 = l[k] := by simp [List.getD, List.getElem?_eq_getElem hk]
 rw [e]
 rfl
theorem sub_bl (l : List UInt8) (a b : Nat) : (bl l).extract a b = bl ((l.drop a).take (b - a)) := ByteArray.extract_mk l a b
set_option maxRecDepth 100000 in
set_option maxHeartbeats 1600000 in
theorem l1Cut_c (l : List UInt8) (c : UInt8) (w : World) (hsz : l.length ≤ 1000000000000) :
    Calls Tryz.prog 62 #[.string (bl l), .int .u8 (c.toNat : Int)] w fun e w' => ∃ A n cp, e = .returned (.slice A n cp) ∧ RdT w' w'.heap.size A n cp ((spl c l).map bl) ∧ Below w.heap.size w w' := by
 have hls : (bl l).size = l.length := bl_size l
 have hidx := fun k W (hk : k < l.length) => idx_bl l k W hk
 have hO0 := OwnS.made w w.heap.size #[] (Nat.le_refl _) rfl
 have hb0 : Below w.heap.size w (w.alloc (Obj.cells #[] 9)) := (Below.refl _ _).alloc (Nat.le_refl _) _
 have hcc := c.toNat_lt
 go_enter Tryz.func62, Tryz.ntmps62
 go_wp2_with fail
 generalize w.alloc (Obj.cells #[] 9) = w0 at hb0 hO0 ⊢
 go_loopw [5, 6, 7] (fun o f i wr => ∃ (k fr : Nat) (us : List (List UInt8)), k ≤ l.length ∧ fr ≤ k ∧ us.length ≤ k ∧ i = .int .i64 (k : Int) ∧ f = .int .i64 (fr : Int) ∧ OwnS wr w.heap.size o (us.map bl) ∧ spl c l = us ++ spl c (l.drop fr) ∧ c ∉ (l.drop fr).take (k - fr) ∧ Below w.heap.size w wr) (fun _ _ i _ => l.length - (intOf i).toNat)
 case atStart => exact ⟨0, 0, [], Nat.zero_le _, Nat.le_refl _, Nat.le_refl _, rfl, rfl, hO0, rfl, by simp, hb0⟩
 case round =>
  obtain ⟨k, fr, us, hk, hfk, hul, rfl, rfl, hown, hsp, hno, hbw⟩ := hrel
  have hs := hbw.size
  by_cases hlt : k < l.length
  · have hik := hidx k wr hlt
    have hgk : l[k]? = some (l.getD k 0) := by simp [List.getD, List.getElem?_eq_getElem hlt]
    have hdk : (l.drop fr)[k - fr]? = some (l.getD k 0) := by rw [List.getElem?_drop, show fr + (k - fr) = k by omega]; exact hgk
    have hts : (l.drop fr).take (k - fr + 1) = (l.drop fr).take (k - fr) ++ [l.getD k 0] := by rw [List.take_add_one, hdk]; rfl
    by_cases hc : l.getD k 0 = c
    · have hdr : l.drop fr = (l.drop fr).take (k - fr) ++ c :: l.drop (k + 1) := by
       conv => lhs; rw [← List.take_append_drop (k - fr) (l.drop fr)]
       rw [List.drop_drop, show fr + (k - fr) = k by omega]
       congr 1
       rw [List.drop_eq_getElem_cons hlt, ← hc]
       simp [List.getD, List.getElem?_eq_getElem hlt]
      have h9 : spl c (l.drop fr) = (l.drop fr).take (k - fr) :: spl c (l.drop (k + 1)) := by
       conv => lhs; rw [hdr]
       exact spl_yes _ hno
      have HS : Hid (spl c l = (us ++ [(l.drop fr).take (k - fr)]) ++ spl c (l.drop (k + 1))) := Lib.hid (by rw [hsp, h9, List.append_assoc]; rfl)
      have hex : (bl l).extract fr k = bl ((l.drop fr).take (k - fr)) := sub_bl l fr k
      rw [hc] at hik
      have hlen : (us.map bl).length ≤ 1000000000000 := by rw [List.length_map]; omega
      have h1 : (0 : Int) ≤ (fr : Int) := Int.natCast_nonneg _
      have h2 : (fr : Int) ≤ (k : Int) := by omega
      have h3 : (k : Int) ≤ (l.length : Int) := by omega
      clear hsp hno hdk hgk hts hc hdr h9 hidx
      go_wp2_with (at_builtin; refine app_text wr _ rfl _ _ rfl w.heap.size _ (us.map bl) rfl hown rfl hlen hs ?_; intro v' w3 hown3 hb3)
      go_roundw
      case rel => exact ⟨k + 1, k + 1, us ++ [(l.drop fr).take (k - fr)], by omega, by omega, by rw [List.length_append]; exact Nat.add_le_add hul (Nat.le_refl _), by go_num, by go_num, by rw [List.map_append]; simpa [hex] using hown3, HS.out, by simp, hbw.trans hb3⟩
      case measure => simp [intOf]; omega
    · have hq : (((l.getD k 0).toNat : Int) == (c.toNat : Int)) = false := by
       rw [beq_eq_false_iff_ne]
       intro h9
       exact hc (UInt8.toNat_inj.1 (by omega))
      have HN : Hid (c ∉ (l.drop fr).take (k + 1 - fr)) := Lib.hid (by
       rw [show k + 1 - fr = k - fr + 1 by omega, hts, List.mem_append, List.mem_singleton, not_or]
       exact ⟨hno, fun h9 => hc h9.symm⟩)
      have HS := Lib.hid hsp
      generalize ((l.getD k 0).toNat : Int) = y at *
      clear hsp hno hdk hgk hts hc hidx
      go_wp2_with fail
      go_roundw
      case rel => exact ⟨k + 1, fr, us, by omega, by omega, by omega, by go_num, rfl, hown, HS.out, HN.out, hbw⟩
      case measure => simp [intOf]; omega
  · obtain rfl : k = l.length := by omega
    have hno2 : c ∉ l.drop fr := by rw [List.take_of_length_le (by rw [List.length_drop]; omega)] at hno; exact hno
    have HS : Hid (spl c l = us ++ [l.drop fr]) := Lib.hid (by rw [hsp, spl_no hno2])
    have hex : (bl l).extract fr l.length = bl (l.drop fr) := by rw [sub_bl, List.take_of_length_le (by rw [List.length_drop]; omega)]
    have hlen : (us.map bl).length ≤ 1000000000000 := by rw [List.length_map]; omega
    have h1 : (0 : Int) ≤ (fr : Int) := Int.natCast_nonneg _
    have h2 : (fr : Int) ≤ (l.length : Int) := by omega
    clear hsp hno hno2
    go_wp2_with (at_builtin; refine app_text wr _ rfl _ _ rfl w.heap.size _ (us.map bl) rfl hown rfl hlen hs ?_; intro v' w3 hown3 hb3)
    obtain ⟨A3, c3, rfl, hR3⟩ := hown3.slice_
    go_ret
    rw [HS.out, List.map_append]
    exact ⟨A3, _, c3, rfl, by simpa [hex] using hR3, hbw.trans hb3⟩
end
end Go.Proofs.YtoinlkdmfclnbaaGreatDoor
