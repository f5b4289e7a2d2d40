/- Walk: DeedText of the reference. -/
import Derived.Test.YtnpjelekpkgbpaaDoorW109
import Derived.Test.YtnpjelekpkgbpaaDoorW82
import Derived.Test.YtnpjelekpkgbpaaDoorV14
import Derived.Test.YtnpjelekpkgbpaaDoorM22
namespace Go.Proofs.YtnpjelekpkgbpaaDoor
set_option linter.unusedVariables false
open Go.RowKit

/-- the text of a deed -/
def dtX (kd a b : Int) (s : ByteArray) : ByteArray := bl (dtL kd a b s.data.toList)
theorem rdX_at (s : ByteArray) : ∀ k j, j < k → (rdX s k)[j]? = some (((s.get! j).toNat : Int) - 48)
  | k + 1, j, h => by
    rw [rdX_succ]
    rcases Nat.lt_or_ge j k with h1 | h1
    · rw [List.getElem?_append_left (by rw [rdX_len]; exact h1)]; exact rdX_at s k j h1
    · obtain rfl : j = k := by omega
      rw [List.getElem?_append_right (by rw [rdX_len]; exact Nat.le_refl _), rdX_len, Nat.sub_self]; rfl
theorem rdX_map (s : ByteArray) : rdX s s.size = s.data.toList.map fun b => ((b.toNat : Int) - 48) := by
  apply List.ext_getElem?
  intro j
  by_cases h : j < s.size
  · rw [rdX_at s s.size j h, List.getElem?_map]
    have h' : j < s.data.toList.length := by simpa using h
    rw [List.getElem?_eq_getElem h', byte_get h]
    rfl
  · rw [List.getElem?_eq_none (by rw [rdX_len]; omega), List.getElem?_eq_none]
    rw [List.length_map, Array.length_toList]
    exact Nat.le_of_not_lt h
theorem tx_map (s : ByteArray) : tx s.data.toList = mapOk (rdX s s.size) := by
  rw [rdX_map]
  unfold tx mapOk
  rw [List.length_map]
  congr 1
  unfold allHas
  rw [List.all_map]
  congr 1
  funext b
  unfold hasB
  simp only [Function.comp]
  rw [decide_eq_decide]
  omega
theorem nil_iff {s : ByteArray} : s = ⟨#[]⟩ ↔ s.data.toList = [] := by
  constructor
  · intro h; rw [h]
  · intro h; rw [← bl_of s, h]; rfl
theorem bl_nil : bl [] = ⟨#[]⟩ := rfl
def TextOf (t : ByteArray) (w : World) (e : Ending) (w' : World) : Prop := e = .returned (.string t) ∧ Below w.heap.size w w'
set_option maxRecDepth 100000 in
set_option maxHeartbeats 800000 in
theorem sdt_no (kd a b : Int) (s : ByteArray) (w : World) (hs : s.size ≤ 1000000000000) (hb0 : isBack kd a b s = false)
    (hno : (kd = 0 ∧ ¬ s = ⟨#[]⟩) ∨ (kd = 0 ∧ s = ⟨#[]⟩ ∧ inB a 0 9 = false) ∨ (kd = 0 ∧ s = ⟨#[]⟩ ∧ inB a 0 9 = true ∧ inB b 0 9 = false) ∨
      ((kd = 1 ∨ kd = 3) ∧ mapOk (rdX s s.size) = false) ∨ ((kd = 1 ∨ kd = 3) ∧ mapOk (rdX s s.size) = true ∧ ¬ a = 0) ∨ ((kd = 1 ∨ kd = 3) ∧ mapOk (rdX s s.size) = true ∧ a = 0 ∧ ¬ b = 0) ∨
      (kd = 2 ∧ ¬ s = ⟨#[]⟩) ∨ (kd = 2 ∧ s = ⟨#[]⟩ ∧ ¬ b = 0) ∨ (kd = 2 ∧ s = ⟨#[]⟩ ∧ b = 0 ∧ inB a 0 999999 = false) ∨
      (¬ kd = 0 ∧ ¬ kd = 1 ∧ ¬ kd = 2 ∧ ¬ kd = 3)) :
    Calls Tryd.prog 11 #[.agg #[.int .i64 kd, .int .i64 a, .int .i64 b, .string s]] w (TextOf ⟨#[]⟩ w) := by
  have hqe := fun w => eqBack kd a b s w
  have hgu : Tryd.prog.eqGuardType Tryd.prog.depth 26 = false := by kernel_rfl
  simp only [hb0] at hqe
  clear hb0
  have hF := Four.made w 26 kd a b s
  have hb1 : Below w.heap.size w (w.alloc (.cells #[.int .i64 kd, .int .i64 a, .int .i64 b, .string s] 26)) := (Below.refl _ _).alloc (Nat.le_refl _) _
  have K1 := sReadMap_c s (w.alloc (.cells #[.int .i64 kd, .int .i64 a, .int .i64 b, .string s] 26)) hs
  rcases hno with ⟨rfl, hs0⟩ | ⟨rfl, hs0, hi⟩ | ⟨rfl, hs0, hi, hj⟩ | ⟨rfl | rfl, hok⟩ | ⟨rfl | rfl, hok, ha⟩ | ⟨rfl | rfl, hok, ha, hb⟩ | ⟨rfl, hs0⟩ | ⟨rfl, hs0, hb⟩ | ⟨rfl, hs0, hb, hi⟩ | ⟨h0, h1, h2, h3⟩
  all_goals
    first
      | (rw [hok] at K1; clear hok)
      | (generalize mapOk (rdX s s.size) = ok at K1)
    (try (have q1 := strN hs0; have q2 := strB hs0; clear hs0))
    (try (have q1 := strE hs0; clear hs0))
    (try (have qa := neqz ha; clear ha))
    (try (have qa := eqz ha; clear ha))
    (try (have qb := neqz hb; clear hb))
    (try (have qb := eqz hb; clear hb))
    (try (have q0 := neqz h0; have q4 : (kd == 1) = false := by simpa using h1; have q5 : (kd == 2) = false := by simpa using h2; have q6 : (kd == 3) = false := by simpa using h3; clear h0 h1 h2 h3))
    go_enter Tryd.func11, Tryd.ntmps11
    go_wp2_with fail
    generalize w.alloc (.cells #[.int .i64 _, .int .i64 a, .int .i64 b, .string s] 26) = w1 at *
    refine K1.mono ?_
    rintro e w2 ⟨A1, n1, c1, rfl, hO1, hb2⟩
    obtain ⟨_, k0, k1, k2, k3⟩ := hF.up hb2
    have hB := bt hb1 hb2
    clear K1 hF hb1 hb2 hO1
    have KA := fun h => l1In_c a 0 h w2
    have KB := l1In_c b 0 9 w2
    have KC := l1In_c a 0 9 w2
    have KD := l1In_c a 0 999999 w2
    (try rw [hj] at KB)
    (try rw [hi] at KC)
    (try rw [hi] at KD)
    go_wp2_with (first | (go_at_call 32; with_reducible refine KB.mono ?_; rintro e w' ⟨rfl, rfl⟩) | (go_at_call 32; with_reducible refine KC.mono ?_; rintro e w' ⟨rfl, rfl⟩) | (go_at_call 32; with_reducible refine KD.mono ?_; rintro e w' ⟨rfl, rfl⟩))
    go_ret
    exact ⟨rfl, hB⟩
theorem sdt_back (s : ByteArray) (w : World) (hs : s.size ≤ 1000000000000) (hs0 : s = ⟨#[]⟩) :
    Calls Tryd.prog 11 #[.agg #[.int .i64 4, .int .i64 0, .int .i64 0, .string s]] w (TextOf (bl wBack) w) := by
  have hqe := fun w => eqBack 4 0 0 s w
  have hgu : Tryd.prog.eqGuardType Tryd.prog.depth 26 = false := by kernel_rfl
  have hb0 : isBack 4 0 0 s = true := by unfold isBack; rw [emp_iff.2 hs0]; rfl
  simp only [hb0] at hqe
  clear hb0 hs0
  have hF := Four.made w 26 4 0 0 s
  have hb1 : Below w.heap.size w (w.alloc (.cells #[.int .i64 4, .int .i64 0, .int .i64 0, .string s] 26)) := (Below.refl _ _).alloc (Nat.le_refl _) _
  have K1 := sReadMap_c s (w.alloc (.cells #[.int .i64 4, .int .i64 0, .int .i64 0, .string s] 26)) hs
  generalize mapOk (rdX s s.size) = ok at K1
  go_enter Tryd.func11, Tryd.ntmps11
  go_wp2_with fail
  generalize w.alloc (.cells #[.int .i64 _, .int .i64 0, .int .i64 0, .string s] 26) = w1 at *
  refine K1.mono ?_
  rintro e w2 ⟨A1, n1, c1, rfl, hO1, hb2⟩
  obtain ⟨_, k0, k1, k2, k3⟩ := hF.up hb2
  have hB := bt hb1 hb2
  clear K1 hF hb1 hb2 hO1
  go_wp2_with fail
  go_ret
  exact ⟨rfl, hB⟩
set_option maxRecDepth 100000 in
set_option maxHeartbeats 800000 in
theorem sdt_map (kd : Int) (s : ByteArray) (w : World) (hs : s.size ≤ 1000000000000) (hk : kd = 1 ∨ kd = 3) (hok : mapOk (rdX s s.size) = true) :
    Calls Tryd.prog 11 #[.agg #[.int .i64 kd, .int .i64 0, .int .i64 0, .string s]] w (TextOf (bl ((if kd = 1 then wBehind else wName) ++ [32]) ++ s) w) := by
  rcases hk with rfl | rfl
  all_goals
    first
      | rw [show bl ((if (1 : Int) = 1 then wBehind else wName) ++ [32]) = (⟨#[98, 101, 104, 105, 110, 100, 32]⟩ : ByteArray) from rfl]
      | rw [show bl ((if (3 : Int) = 1 then wBehind else wName) ++ [32]) = (⟨#[110, 97, 109, 101, 32]⟩ : ByteArray) from rfl]
    have hna : ¬ (9223372036854775807 < (⟨#[98, 101, 104, 105, 110, 100, 32]⟩ : ByteArray).size + s.size) := by rw [show (⟨#[98, 101, 104, 105, 110, 100, 32]⟩ : ByteArray).size = 7 from rfl]; omega
    have hnb : ¬ (9223372036854775807 < (⟨#[110, 97, 109, 101, 32]⟩ : ByteArray).size + s.size) := by rw [show (⟨#[110, 97, 109, 101, 32]⟩ : ByteArray).size = 5 from rfl]; omega
  · have hqe := fun w => eqBack 1 0 0 s w
    have hgu : Tryd.prog.eqGuardType Tryd.prog.depth 26 = false := by kernel_rfl
    have hb0 : isBack 1 0 0 s = false := rfl
    simp only [hb0] at hqe
    clear hb0
    have hF := Four.made w 26 1 0 0 s
    have hb1 : Below w.heap.size w (w.alloc (.cells #[.int .i64 1, .int .i64 0, .int .i64 0, .string s] 26)) := (Below.refl _ _).alloc (Nat.le_refl _) _
    have K1 := sReadMap_c s (w.alloc (.cells #[.int .i64 1, .int .i64 0, .int .i64 0, .string s] 26)) hs
    rw [hok] at K1
    clear hok
    go_enter Tryd.func11, Tryd.ntmps11
    go_wp2_with fail
    generalize w.alloc (.cells #[.int .i64 _, .int .i64 0, .int .i64 0, .string s] 26) = w1 at *
    refine K1.mono ?_
    rintro e w2 ⟨A1, n1, c1, rfl, hO1, hb2⟩
    obtain ⟨_, k0, k1, k2, k3⟩ := hF.up hb2
    have hB := bt hb1 hb2
    clear K1 hF hb1 hb2 hO1
    go_wp2_with fail
    go_ret
    exact ⟨rfl, hB⟩
  · have hqe := fun w => eqBack 3 0 0 s w
    have hgu : Tryd.prog.eqGuardType Tryd.prog.depth 26 = false := by kernel_rfl
    have hb0 : isBack 3 0 0 s = false := rfl
    simp only [hb0] at hqe
    clear hb0
    have hF := Four.made w 26 3 0 0 s
    have hb1 : Below w.heap.size w (w.alloc (.cells #[.int .i64 3, .int .i64 0, .int .i64 0, .string s] 26)) := (Below.refl _ _).alloc (Nat.le_refl _) _
    have K1 := sReadMap_c s (w.alloc (.cells #[.int .i64 3, .int .i64 0, .int .i64 0, .string s] 26)) hs
    rw [hok] at K1
    clear hok
    go_enter Tryd.func11, Tryd.ntmps11
    go_wp2_with fail
    generalize w.alloc (.cells #[.int .i64 _, .int .i64 0, .int .i64 0, .string s] 26) = w1 at *
    refine K1.mono ?_
    rintro e w2 ⟨A1, n1, c1, rfl, hO1, hb2⟩
    obtain ⟨_, k0, k1, k2, k3⟩ := hF.up hb2
    have hB := bt hb1 hb2
    clear K1 hF hb1 hb2 hO1
    go_wp2_with fail
    go_ret
    exact ⟨rfl, hB⟩
set_option maxRecDepth 100000 in
set_option maxHeartbeats 800000 in
theorem sdt_power (n : Nat) (s : ByteArray) (w : World) (hs : s.size ≤ 1000000000000) (hs0 : s = ⟨#[]⟩) (hn : n ≤ 999999) :
    Calls Tryd.prog 11 #[.agg #[.int .i64 2, .int .i64 (n : Int), .int .i64 0, .string s]] w (TextOf (bl (wPower ++ [32]) ++ decX n) w) := by
  rw [show bl (wPower ++ [32]) = (⟨#[112, 111, 119, 101, 114, 32]⟩ : ByteArray) from rfl]
  have hqe := fun w => eqBack 2 n 0 s w
  have hgu : Tryd.prog.eqGuardType Tryd.prog.depth 26 = false := by kernel_rfl
  have hb0 : isBack 2 n 0 s = false := rfl
  simp only [hb0] at hqe
  clear hb0
  have q1 := strE hs0
  have hdz := decX_size n
  have hna : ¬ (9223372036854775807 < (⟨#[112, 111, 119, 101, 114, 32]⟩ : ByteArray).size + (decX n).size) := by rw [show (⟨#[112, 111, 119, 101, 114, 32]⟩ : ByteArray).size = 6 from rfl]; omega
  have hF := Four.made w 26 2 n 0 s
  have hb1 : Below w.heap.size w (w.alloc (.cells #[.int .i64 2, .int .i64 (n : Int), .int .i64 0, .string s] 26)) := (Below.refl _ _).alloc (Nat.le_refl _) _
  have K1 := sReadMap_c s (w.alloc (.cells #[.int .i64 2, .int .i64 (n : Int), .int .i64 0, .string s] 26)) hs
  have KN := fun W => l1Number_c n W (by omega)
  generalize mapOk (rdX s s.size) = ok at K1
  generalize decX n = T at *
  clear hs0 hdz
  go_enter Tryd.func11, Tryd.ntmps11
  go_wp2_with fail
  generalize w.alloc (.cells #[.int .i64 _, .int .i64 (n : Int), .int .i64 0, .string s] 26) = w1 at *
  refine K1.mono ?_
  rintro e w2 ⟨A1, n1, c1, rfl, hO1, hb2⟩
  obtain ⟨_, k0, k1, k2, k3⟩ := hF.up hb2
  have hB := bt hb1 hb2
  clear K1 hF hb1 hb2 hO1
  have KD := l1In_c n 0 999999 w2
  rw [show inB (n : Int) 0 999999 = true from by rw [inB_iff]; omega] at KD
  go_wp2_with (first | (go_at_call 32; with_reducible refine KD.mono ?_; rintro e w' ⟨rfl, rfl⟩) | (go_at_call 33; with_reducible refine (KN _).mono ?_; rintro e w3 ⟨rfl, hb3⟩; have hB3 := bt hB hb3))
  go_ret
  exact ⟨rfl, hB3⟩
set_option maxRecDepth 100000 in
set_option maxHeartbeats 800000 in
theorem sdt_lead (i j : Nat) (s : ByteArray) (w : World) (hs : s.size ≤ 1000000000000) (hs0 : s = ⟨#[]⟩) (hi : i ≤ 9) (hj : j ≤ 9) :
    Calls Tryd.prog 11 #[.agg #[.int .i64 0, .int .i64 (i : Int), .int .i64 (j : Int), .string s]] w (TextOf (bl (wLead ++ [32]) ++ decX i ++ bl [32] ++ decX j) w) := by
  rw [show bl (wLead ++ [32]) = (⟨#[108, 101, 97, 100, 32]⟩ : ByteArray) from rfl, show bl [32] = (⟨#[32]⟩ : ByteArray) from rfl]
  have hqe := fun w => eqBack 0 i j s w
  have hgu : Tryd.prog.eqGuardType Tryd.prog.depth 26 = false := by kernel_rfl
  have hb0 : isBack 0 i j s = false := rfl
  simp only [hb0] at hqe
  clear hb0
  have q1 := strE hs0
  have hd1 : (decX i).size = 1 := by rw [decX_small (by omega)]; rfl
  have hd2 : (decX j).size = 1 := by rw [decX_small (by omega)]; rfl
  have hn1 : ¬ (9223372036854775807 < (⟨#[108, 101, 97, 100, 32]⟩ : ByteArray).size + (decX i).size) := by rw [show (⟨#[108, 101, 97, 100, 32]⟩ : ByteArray).size = 5 from rfl]; omega
  have hn2 : ¬ (9223372036854775807 < ((⟨#[108, 101, 97, 100, 32]⟩ : ByteArray) ++ decX i).size + (⟨#[32]⟩ : ByteArray).size) := by rw [ByteArray.size_append, show (⟨#[108, 101, 97, 100, 32]⟩ : ByteArray).size = 5 from rfl, show (⟨#[32]⟩ : ByteArray).size = 1 from rfl]; omega
  have hn3 : ¬ (9223372036854775807 < ((⟨#[108, 101, 97, 100, 32]⟩ : ByteArray) ++ decX i ++ ⟨#[32]⟩).size + (decX j).size) := by rw [ByteArray.size_append, ByteArray.size_append, show (⟨#[108, 101, 97, 100, 32]⟩ : ByteArray).size = 5 from rfl, show (⟨#[32]⟩ : ByteArray).size = 1 from rfl]; omega
  have hF := Four.made w 26 0 i j s
  have hb1 : Below w.heap.size w (w.alloc (.cells #[.int .i64 0, .int .i64 (i : Int), .int .i64 (j : Int), .string s] 26)) := (Below.refl _ _).alloc (Nat.le_refl _) _
  have K1 := sReadMap_c s (w.alloc (.cells #[.int .i64 0, .int .i64 (i : Int), .int .i64 (j : Int), .string s] 26)) hs
  have KI := fun W => l1Number_c i W (by omega)
  have KJ := fun W => l1Number_c j W (by omega)
  generalize mapOk (rdX s s.size) = ok at K1
  generalize decX i = T at *
  generalize decX j = U at *
  clear hs0
  go_enter Tryd.func11, Tryd.ntmps11
  go_wp2_with fail
  generalize w.alloc (.cells #[.int .i64 _, .int .i64 (i : Int), .int .i64 (j : Int), .string s] 26) = w1 at *
  refine K1.mono ?_
  rintro e w2 ⟨A1, n1, c1, rfl, hO1, hb2⟩
  obtain ⟨hlt, k0, k1, k2, k3⟩ := hF.up hb2
  have hB := bt hb1 hb2
  clear K1 hF hb1 hb2 hO1
  have KA := l1In_c i 0 9 w2
  rw [show inB (i : Int) 0 9 = true from by rw [inB_iff]; omega] at KA
  have KB := l1In_c j 0 9 w2
  rw [show inB (j : Int) 0 9 = true from by rw [inB_iff]; omega] at KB
  go_wp2_with (first | (go_at_call 32; with_reducible refine KA.mono ?_; rintro e w' ⟨rfl, rfl⟩) | (go_at_call 32; with_reducible refine KB.mono ?_; rintro e w' ⟨rfl, rfl⟩))
  clear KA KB
  have HF0 : Hid (Four w2.drew w.heap.size 0 i j s) := Lib.hid ⟨hlt, k0, k1, k2, k3⟩
  have HB0 : Hid (Below w.heap.size w w2.drew) := Lib.hid (bd hB 1)
  clear hB
  go_region_held3 (fun w' => World.cell? w' ⟨w.heap.size, 1, none⟩ = some (.int .i64 (i : Int)) ∧ World.cell? w' ⟨w.heap.size, 2, none⟩ = some (.int .i64 (j : Int)))
    (first
      | exact ⟨HF0.out.2.2.1, HF0.out.2.2.2.1⟩
      | exact ⟨HF3.out.2.2.1, HF3.out.2.2.2.1⟩
      | exact ⟨HF4.out.2.2.1, HF4.out.2.2.2.1⟩)
    (first
      | (go_at_call_of 33 (Value.int IntKind.i64 (i : Int)); with_reducible refine (KI _).mono ?_; rintro e w3 ⟨rfl, hb3⟩; have HB3 := Lib.hid (bt HB0.out hb3); have HF3 := Lib.hid (HF0.out.up hb3))
      | (go_at_call_of 33 (Value.int IntKind.i64 (j : Int)); with_reducible refine (KJ _).mono ?_; rintro e w4 ⟨rfl, hb4⟩; have HB4 := Lib.hid (bt HB3.out hb4); have HF4 := Lib.hid (HF3.out.up hb4)))
  all_goals
    go_wp2_with fail
    go_ret
    exact ⟨rfl, HB4.out⟩
theorem sDeedText_c (kd a b : Int) (s : ByteArray) (w : World) (hs : s.size ≤ 1000000000000) :
    Calls Tryd.prog 11 #[.agg #[.int .i64 kd, .int .i64 a, .int .i64 b, .string s]] w (TextOf (dtX kd a b s) w) := by
  have hE : ∀ {l : List UInt8}, dtL kd a b s.data.toList = l → dtX kd a b s = bl l := fun h => by unfold dtX; rw [h]
  rcases hb0 : isBack kd a b s with _ | _
  · have hbk : ¬ (kd = 4 ∧ a = 0 ∧ b = 0 ∧ s.data.toList = []) := by
      rintro ⟨h1, h2, h3, h4⟩
      rw [← nil_iff] at h4
      unfold isBack at hb0
      rw [decide_eq_true h1, decide_eq_true h2, decide_eq_true h3, emp_iff.2 h4] at hb0
      cases hb0
    by_cases h0 : kd = 0
    · subst h0
      by_cases hs0 : s = ⟨#[]⟩
      · have hl := nil_iff.1 hs0
        rcases ha : inB a 0 9 with _ | _
        · rw [hE (l := []) (by unfold dtL; rw [if_neg (by omega), if_neg, if_neg (by omega), if_neg (by omega), if_neg (by omega)]; rintro ⟨_, _, h9, _⟩; rw [← inB_iff, ha] at h9; cases h9)]
          exact sdt_no 0 a b s w hs hb0 (.inr (.inl ⟨rfl, hs0, ha⟩))
        · rcases hb : inB b 0 9 with _ | _
          · rw [hE (l := []) (by unfold dtL; rw [if_neg (by omega), if_neg, if_neg (by omega), if_neg (by omega), if_neg (by omega)]; rintro ⟨_, _, _, h9⟩; rw [← inB_iff, hb] at h9; cases h9)]
            exact sdt_no 0 a b s w hs hb0 (.inr (.inr (.inl ⟨rfl, hs0, ha, hb⟩)))
          · rw [inB_iff] at ha hb
            obtain ⟨i, rfl⟩ := Int.eq_ofNat_of_zero_le ha.1
            obtain ⟨j, rfl⟩ := Int.eq_ofNat_of_zero_le hb.1
            have h9 := of_dt (DT.lead i j (by omega) (by omega))
            rw [hE (l := wLead ++ 32 :: (Lib.decDigits i ++ 32 :: Lib.decDigits j)) (by rw [hl]; exact h9)]
            rw [show bl (wLead ++ 32 :: (Lib.decDigits i ++ 32 :: Lib.decDigits j)) = bl (wLead ++ [32]) ++ decX i ++ bl [32] ++ decX j by unfold decX; rw [bl_app, bl_app, bl_app]; simp]
            exact sdt_lead i j s w hs hs0 (by omega) (by omega)
      · rw [hE (l := []) (by unfold dtL; rw [if_neg (by omega), if_neg (fun h => hs0 (nil_iff.2 h.2.1)), if_neg (by omega), if_neg (by omega), if_neg (by omega)])]
        exact sdt_no 0 a b s w hs hb0 (.inl ⟨rfl, hs0⟩)
    by_cases h13 : kd = 1 ∨ kd = 3
    · rcases hok : mapOk (rdX s s.size) with _ | _
      · have hok' : ¬ tx s.data.toList = true := by rw [tx_map, hok]; simp
        rw [hE (l := []) (by unfold dtL; rw [if_neg (by omega), if_neg (by omega), if_neg (fun h => hok' h.2.1), if_neg (fun h => hok' h.2.1), if_neg (by omega)])]
        exact sdt_no kd a b s w hs hb0 (.inr (.inr (.inr (.inl ⟨h13, hok⟩))))
      · by_cases ha : a = 0
        · by_cases hb : b = 0
          · subst ha
            subst hb
            have htx : tx s.data.toList = true := by rw [tx_map, hok]
            have h9 : dtX kd 0 0 s = bl ((if kd = 1 then wBehind else wName) ++ [32]) ++ s := by
              rcases h13 with rfl | rfl
              · rw [hE (of_dt (DT.behind _ htx)), if_pos rfl]
                conv => rhs; rw [← bl_of s, bl_app]
                simp
              · rw [hE (of_dt (DT.name _ htx)), if_neg (by omega)]
                conv => rhs; rw [← bl_of s, bl_app]
                simp
            rw [h9]
            exact sdt_map kd s w hs h13 hok
          · rw [hE (l := []) (by unfold dtL; rw [if_neg (by omega), if_neg (by omega), if_neg (by omega), if_neg (by omega), if_neg (by omega)])]
            exact sdt_no kd a b s w hs hb0 (.inr (.inr (.inr (.inr (.inr (.inl ⟨h13, hok, ha, hb⟩))))))
        · rw [hE (l := []) (by unfold dtL; rw [if_neg (by omega), if_neg (by omega), if_neg (by omega), if_neg (by omega), if_neg (by omega)])]
          exact sdt_no kd a b s w hs hb0 (.inr (.inr (.inr (.inr (.inl ⟨h13, hok, ha⟩)))))
    by_cases h2 : kd = 2
    · subst h2
      by_cases hs0 : s = ⟨#[]⟩
      · have hl := nil_iff.1 hs0
        by_cases hb : b = 0
        · subst hb
          rcases ha : inB a 0 999999 with _ | _
          · rw [hE (l := []) (by unfold dtL; rw [if_neg (by omega), if_neg (by omega), if_neg (by omega), if_neg (by omega), if_neg]; rintro ⟨_, _, _, h9⟩; rw [← inB_iff, ha] at h9; cases h9)]
            exact sdt_no 2 a 0 s w hs hb0 (.inr (.inr (.inr (.inr (.inr (.inr (.inr (.inr (.inl ⟨rfl, hs0, rfl, ha⟩)))))))))
          · rw [inB_iff] at ha
            obtain ⟨n, rfl⟩ := Int.eq_ofNat_of_zero_le ha.1
            have h9 := of_dt (DT.power n (by omega))
            rw [hE (l := wPower ++ 32 :: Lib.decDigits n) (by rw [hl]; exact h9)]
            rw [show bl (wPower ++ 32 :: Lib.decDigits n) = bl (wPower ++ [32]) ++ decX n by unfold decX; rw [bl_app]; simp]
            exact sdt_power n s w hs hs0 (by omega)
        · rw [hE (l := []) (by unfold dtL; rw [if_neg (by omega), if_neg (by omega), if_neg (by omega), if_neg (by omega), if_neg (by omega)])]
          exact sdt_no 2 a b s w hs hb0 (.inr (.inr (.inr (.inr (.inr (.inr (.inr (.inl ⟨rfl, hs0, hb⟩))))))))
      · rw [hE (l := []) (by unfold dtL; rw [if_neg (by omega), if_neg (by omega), if_neg (by omega), if_neg (by omega), if_neg (fun h => hs0 (nil_iff.2 h.2.1))])]
        exact sdt_no 2 a b s w hs hb0 (.inr (.inr (.inr (.inr (.inr (.inr (.inl ⟨rfl, hs0⟩)))))))
    · rw [hE (l := []) (by unfold dtL; rw [if_neg hbk, if_neg (by omega), if_neg (by omega), if_neg (by omega), if_neg (by omega)])]
      exact sdt_no kd a b s w hs hb0 (.inr (.inr (.inr (.inr (.inr (.inr (.inr (.inr (.inr ⟨h0, fun h => h13 (.inl h), h2, fun h => h13 (.inr h)⟩)))))))))
  · unfold isBack at hb0
    simp only [Bool.and_eq_true, decide_eq_true_eq] at hb0
    obtain ⟨⟨⟨rfl, rfl⟩, rfl⟩, h4⟩ := hb0
    have hs0 := emp_iff.1 h4
    rw [hE (l := wBack) (by rw [nil_iff.1 hs0]; rfl)]
    exact sdt_back s w hs hs0
end Go.Proofs.YtnpjelekpkgbpaaDoor
