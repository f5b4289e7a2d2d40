/- Walk: DeedText of the program. -/
import Derived.Test.YtoinlkdmfclnbaaGreatDoorV18
import Derived.Test.YtoinlkdmfclnbaaGreatDoorV10
import Derived.Test.YtoinlkdmfclnbaaGreatDoorSh
import Derived.WalkSmall
namespace Go.Proofs.YtoinlkdmfclnbaaGreatDoor
set_option linter.unusedVariables false
open Go.RowKit

/-- the table of powers of ten holds what the program's text lays in it -/
def Tb (w : World) : Prop := Lib.TabIs Tryz.prog w "internal/strconv.uint64pow10" .u64 Lib.pow10Tab
theorem Tb.below {w w' : World} {B : Nat} (h : Tb w) (hb : Below B w w') (hB : 6 ≤ B) : Tb w' :=
  var?_below hb (show Tryz.prog.globalNamed "internal/strconv.uint64pow10" = some 3 by kernel_rfl) (by omega) h
theorem below_grow_ (w : World) (k : Nat) (os : Array Obj) : Below w.heap.size w (Go.Sort.grow (w.drewN k) os) :=
  ⟨rfl, rfl, rfl, by show w.heap.size ≤ (w.heap ++ os).size; rw [Array.size_append]; omega, fun j hj => by show (w.heap ++ os)[j]? = _; rw [Array.getElem?_append_left hj]⟩
theorem itoa_c (n : Nat) (w : World) (hn : n ≤ 999999) (ht : Tb w) :
    Calls Tryz.prog 90 #[.int .i64 (n : Int)] w fun e w' => e = .returned (.string (decX n)) ∧ Below w.heap.size w w' :=
  (strconv_Itoa (n : Int) (by omega) (by omega) w ht).mono fun e w' ⟨h, k, os, hw⟩ => ⟨by rw [h, Lib.itoa_nonneg]; rfl, by rw [hw]; exact below_grow_ _ _ _⟩
theorem itoa_s (n : Nat) (w : World) (hn : n ≤ 9) :
    Calls Tryz.prog 90 #[.int .i64 (n : Int)] w fun e w' => e = .returned (.string (decX n)) ∧ w = w' :=
  (strconv_Itoa_small n (by omega) w).mono fun e w' ⟨h, hw⟩ => ⟨h, hw.symm⟩
set_option maxRecDepth 100000 in
set_option maxHeartbeats 800000 in
theorem pdt_bare (kd a b : Int) (s : ByteArray) (w : World) (hbr : bareB kd a b s = false) :
    Calls Tryz.prog 35 #[.agg #[.int .i64 kd, .int .i64 a, .int .i64 b, .string s]] w (TextOf ⟨#[]⟩ w) := by
  have hF := Four.made w 55 kd a b s
  have hb1 : Below w.heap.size w (w.alloc (.cells #[.int .i64 kd, .int .i64 a, .int .i64 b, .string s] 55)) := (Below.refl _ _).alloc (Nat.le_refl _) _
  have K0 := bare_c kd a b s (w.alloc (.cells #[.int .i64 kd, .int .i64 a, .int .i64 b, .string s] 55))
  rw [hbr] at K0
  obtain ⟨_, k0, k1, k2, k3⟩ := id hF
  clear hbr hF
  go_enter Tryz.func35, Tryz.ntmps35
  go_wp2_with fail
  generalize w.alloc (.cells #[.int .i64 _, .int .i64 a, .int .i64 b, .string s] 55) = w1 at *
  refine K0.mono ?_
  rintro e w2 ⟨rfl, hb2⟩
  have hB := bt hb1 hb2
  clear K0 hb1 hb2 k0 k1 k2 k3
  go_wp2_with fail
  go_ret
  exact ⟨rfl, hB⟩
set_option maxRecDepth 100000 in
set_option maxHeartbeats 800000 in
theorem pdt_no (kd a b : Int) (s : ByteArray) (w : World) (hs : s.size ≤ 1000000000000) (hbr : bareB kd a b s = true)
    (hno : (kd = 0 ∧ inB a 0 9 = false) ∨ (kd = 0 ∧ inB a 0 9 = true ∧ inB b 0 9 = false) ∨ ((kd = 1 ∨ kd = 3) ∧ mapOk (rdX s s.size) = false) ∨ (kd = 2 ∧ inB a 0 999999 = false) ∨
      (¬ kd = 0 ∧ ¬ kd = 1 ∧ ¬ kd = 2 ∧ ¬ kd = 3 ∧ ¬ kd = 4)) :
    Calls Tryz.prog 35 #[.agg #[.int .i64 kd, .int .i64 a, .int .i64 b, .string s]] w (TextOf ⟨#[]⟩ w) := by
  have hF := Four.made w 55 kd a b s
  have hb1 : Below w.heap.size w (w.alloc (.cells #[.int .i64 kd, .int .i64 a, .int .i64 b, .string s] 55)) := (Below.refl _ _).alloc (Nat.le_refl _) _
  have K0 := bare_c kd a b s (w.alloc (.cells #[.int .i64 kd, .int .i64 a, .int .i64 b, .string s] 55))
  rw [hbr] at K0
  have K1 := fun W => readMap_c s W hs
  clear hbr
  rcases hno with ⟨rfl, hi⟩ | ⟨rfl, hi, hj⟩ | ⟨rfl | rfl, hok⟩ | ⟨rfl, hi⟩ | ⟨h0, h1, h2, h3, h4⟩
  all_goals
    first
      | (rw [hok] at K1; clear hok)
      | (generalize mapOk (rdX s s.size) = ok at K1)
    (try (have q0 := neqz h0; have q4 : (kd == 1) = false := by simpa using h1; have q5 : (kd == 2) = false := by simpa using h2; have q6 : (kd == 3) = false := by simpa using h3; have q7 : (kd == 4) = false := by simpa using h4; clear h0 h1 h2 h3 h4))
    obtain ⟨_, k0, k1, k2, k3⟩ := id hF
    go_enter Tryz.func35, Tryz.ntmps35
    go_wp2_with fail
    generalize w.alloc (.cells #[.int .i64 _, .int .i64 a, .int .i64 b, .string s] 55) = w1 at *
    refine K0.mono ?_
    rintro e w2 ⟨rfl, hb2⟩
    have hF2 := hF.up hb2
    have hB2 := bt hb1 hb2
    clear K0 hb1 hb2 k0 k1 k2 k3 hF
    obtain ⟨_, k0, k1, k2, k3⟩ := id hF2
    go_wp2_with fail
    refine (K1 _).mono ?_
    rintro e w3 ⟨A1, n1, c1, rfl, hO1, hb3⟩
    clear k0 k1 k2 k3
    obtain ⟨_, k0, k1, k2, k3⟩ := hF2.up hb3
    have hB := bt hB2 hb3
    clear K1 hF2 hb3 hO1 hB2
    have KB := within_c b 0 9 w3
    have KC := within_c a 0 9 w3
    have KD := within_c a 0 999999 w3
    (try rw [hj] at KB)
    (try rw [hi] at KC)
    (try rw [hi] at KD)
    go_wp2_with (first | (go_at_call 89; with_reducible refine KB.mono ?_; rintro e w' ⟨rfl, rfl⟩) | (go_at_call 89; with_reducible refine KC.mono ?_; rintro e w' ⟨rfl, rfl⟩) | (go_at_call 89; with_reducible refine KD.mono ?_; rintro e w' ⟨rfl, rfl⟩))
    go_ret
    exact ⟨rfl, hB⟩
set_option maxRecDepth 100000 in
set_option maxHeartbeats 800000 in
theorem pdt_yes (kd : Int) (s : ByteArray) (w : World) (hs : s.size ≤ 1000000000000) (hk : (kd = 1 ∧ mapOk (rdX s s.size) = true) ∨ (kd = 3 ∧ mapOk (rdX s s.size) = true) ∨ kd = 4 ∧ s = ⟨#[]⟩) :
    Calls Tryz.prog 35 #[.agg #[.int .i64 kd, .int .i64 0, .int .i64 0, .string s]] w (TextOf (if kd = 4 then bl wBack else bl ((if kd = 1 then wBehind else wName) ++ [32]) ++ s) w) := by
  have hF := Four.made w 55 kd 0 0 s
  have hb1 : Below w.heap.size w (w.alloc (.cells #[.int .i64 kd, .int .i64 0, .int .i64 0, .string s] 55)) := (Below.refl _ _).alloc (Nat.le_refl _) _
  have K0 := bare_c kd 0 0 s (w.alloc (.cells #[.int .i64 kd, .int .i64 0, .int .i64 0, .string s] 55))
  have hbr : bareB kd 0 0 s = true := by
    unfold bareB
    rcases hk with ⟨rfl, _⟩ | ⟨rfl, _⟩ | ⟨rfl, h⟩
    · simp
    · simp
    · rw [emp_iff.2 h]; rfl
  rw [hbr] at K0
  have K1 := fun W => readMap_c s W hs
  clear hbr
  have hna : ¬ (9223372036854775807 < (⟨#[98, 101, 104, 105, 110, 100, 32]⟩ : ByteArray).size + s.size) := by rw [show (⟨#[98, 101, 104, 105, 110, 100, 32]⟩ : ByteArray).size = 7 from rfl]; omega
  have hnb : ¬ (9223372036854775807 < (⟨#[110, 97, 109, 101, 32]⟩ : ByteArray).size + s.size) := by rw [show (⟨#[110, 97, 109, 101, 32]⟩ : ByteArray).size = 5 from rfl]; omega
  rcases hk with ⟨rfl, hok⟩ | ⟨rfl, hok⟩ | ⟨rfl, hs0⟩
  all_goals
    first
      | rw [show (if (1 : Int) = 4 then bl wBack else bl ((if (1 : Int) = 1 then wBehind else wName) ++ [32]) ++ s) = (⟨#[98, 101, 104, 105, 110, 100, 32]⟩ : ByteArray) ++ s from rfl]
      | rw [show (if (3 : Int) = 4 then bl wBack else bl ((if (3 : Int) = 1 then wBehind else wName) ++ [32]) ++ s) = (⟨#[110, 97, 109, 101, 32]⟩ : ByteArray) ++ s from rfl]
      | rw [show (if (4 : Int) = 4 then bl wBack else bl ((if (4 : Int) = 1 then wBehind else wName) ++ [32]) ++ s) = (⟨#[98, 97, 99, 107]⟩ : ByteArray) from rfl]
    first
      | (rw [hok] at K1; clear hok)
      | (generalize mapOk (rdX s s.size) = ok at K1)
    (try clear hs0)
    obtain ⟨_, k0, k1, k2, k3⟩ := id hF
    go_enter Tryz.func35, Tryz.ntmps35
    go_wp2_with fail
    generalize w.alloc (.cells #[.int .i64 _, .int .i64 0, .int .i64 0, .string s] 55) = w1 at *
    refine K0.mono ?_
    rintro e w2 ⟨rfl, hb2⟩
    have hF2 := hF.up hb2
    have hB2 := bt hb1 hb2
    clear K0 hb1 hb2 k0 k1 k2 k3 hF
    obtain ⟨_, k0, k1, k2, k3⟩ := id hF2
    go_wp2_with fail
    refine (K1 _).mono ?_
    rintro e w3 ⟨A1, n1, c1, rfl, hO1, hb3⟩
    clear k0 k1 k2 k3
    obtain ⟨_, k0, k1, k2, k3⟩ := hF2.up hb3
    have hB := bt hB2 hb3
    clear K1 hF2 hb3 hO1 hB2
    go_wp2_with fail
    go_ret
    exact ⟨rfl, hB⟩
set_option maxRecDepth 100000 in
set_option maxHeartbeats 800000 in
theorem pdt_power (n : Nat) (s : ByteArray) (w : World) (hs : s.size ≤ 1000000000000) (hs0 : s = ⟨#[]⟩) (hn : n ≤ 999999) (ht : Tb w) (h6 : 6 ≤ w.heap.size) :
    Calls Tryz.prog 35 #[.agg #[.int .i64 2, .int .i64 (n : Int), .int .i64 0, .string s]] w (TextOf (bl (wPower ++ [32]) ++ decX n) w) := by
  rw [show bl (wPower ++ [32]) = (⟨#[112, 111, 119, 101, 114, 32]⟩ : ByteArray) from rfl]
  have hF := Four.made w 55 2 n 0 s
  have hb1 : Below w.heap.size w (w.alloc (.cells #[.int .i64 2, .int .i64 (n : Int), .int .i64 0, .string s] 55)) := (Below.refl _ _).alloc (Nat.le_refl _) _
  have K0 := bare_c 2 n 0 s (w.alloc (.cells #[.int .i64 2, .int .i64 (n : Int), .int .i64 0, .string s] 55))
  rw [show bareB 2 n 0 s = true from by unfold bareB; rw [emp_iff.2 hs0]; simp] at K0
  have K1 := fun W => readMap_c s W hs
  have hdz := decX_size n
  have hna : ¬ (9223372036854775807 < (⟨#[112, 111, 119, 101, 114, 32]⟩ : ByteArray).size + (decX n).size) := by rw [show (⟨#[112, 111, 119, 101, 114, 32]⟩ : ByteArray).size = 6 from rfl]; omega
  have KN := fun W => itoa_c n W hn
  generalize mapOk (rdX s s.size) = ok at K1
  generalize decX n = T at *
  clear hs0 hdz
  obtain ⟨_, k0, k1, k2, k3⟩ := id hF
  go_enter Tryz.func35, Tryz.ntmps35
  go_wp2_with fail
  generalize w.alloc (.cells #[.int .i64 _, .int .i64 (n : Int), .int .i64 0, .string s] 55) = w1 at *
  refine K0.mono ?_
  rintro e w2 ⟨rfl, hb2⟩
  have hF2 := hF.up hb2
  have hB2 := bt hb1 hb2
  clear K0 hb1 hb2 k0 k1 k2 k3 hF
  obtain ⟨_, k0, k1, k2, k3⟩ := id hF2
  go_wp2_with fail
  refine (K1 _).mono ?_
  rintro e w3 ⟨A1, n1, c1, rfl, hO1, hb3⟩
  clear k0 k1 k2 k3
  obtain ⟨_, k0, k1, k2, k3⟩ := hF2.up hb3
  have hB := bt hB2 hb3
  have ht3 := ht.below hB h6
  clear K1 hF2 hb3 hO1 hB2
  have KD := within_c n 0 999999 w3
  rw [show inB (n : Int) 0 999999 = true from by rw [inB_iff]; omega] at KD
  go_wp2_with (first | (go_at_call 89; with_reducible refine KD.mono ?_; rintro e w' ⟨rfl, rfl⟩) | (go_at_call 90; with_reducible refine (KN _ ht3).mono ?_; rintro e w4 ⟨rfl, hb4⟩; have hB4 := bt hB hb4))
  go_ret
  exact ⟨rfl, hB4⟩
set_option maxRecDepth 100000 in
set_option maxHeartbeats 800000 in
theorem pdt_lead (i j : Nat) (s : ByteArray) (w : World) (hs : s.size ≤ 1000000000000) (hs0 : s = ⟨#[]⟩) (hi : i ≤ 9) (hj : j ≤ 9) :
    Calls Tryz.prog 35 #[.agg #[.int .i64 0, .int .i64 (i : Int), .int .i64 (j : Int), .string s]] w (TextOf (bl (wLead ++ [32]) ++ decX i ++ bl [32] ++ decX j) w) := by
  rw [show bl (wLead ++ [32]) = (⟨#[108, 101, 97, 100, 32]⟩ : ByteArray) from rfl, show bl [32] = (⟨#[32]⟩ : ByteArray) from rfl]
  have hd1 : (decX i).size = 1 := by rw [decX_small (by omega)]; rfl
  have hd2 : (decX j).size = 1 := by rw [decX_small (by omega)]; rfl
  have hF := Four.made w 55 0 i j s
  have hb1 : Below w.heap.size w (w.alloc (.cells #[.int .i64 0, .int .i64 (i : Int), .int .i64 (j : Int), .string s] 55)) := (Below.refl _ _).alloc (Nat.le_refl _) _
  have K0 := bare_c 0 i j s (w.alloc (.cells #[.int .i64 0, .int .i64 (i : Int), .int .i64 (j : Int), .string s] 55))
  rw [show bareB 0 i j s = true from by unfold bareB; rw [emp_iff.2 hs0]; simp] at K0
  have K1 := fun W => readMap_c s W hs
  have KI := fun W => itoa_s i W hi
  have KJ := fun W => itoa_s j W hj
  generalize mapOk (rdX s s.size) = ok at K1
  generalize decX i = T at *
  generalize decX j = U at *
  clear hs0
  obtain ⟨_, k0, k1, k2, k3⟩ := id hF
  go_enter Tryz.func35, Tryz.ntmps35
  go_wp2_with fail
  generalize w.alloc (.cells #[.int .i64 _, .int .i64 (i : Int), .int .i64 (j : Int), .string s] 55) = w1 at *
  refine K0.mono ?_
  rintro e w2 ⟨rfl, hb2⟩
  have hF2 := hF.up hb2
  have hB2 := bt hb1 hb2
  clear K0 hb1 hb2 k0 k1 k2 k3 hF
  obtain ⟨_, k0, k1, k2, k3⟩ := id hF2
  go_wp2_with fail
  refine (K1 _).mono ?_
  rintro e w3 ⟨A1, n1, c1, rfl, hO1, hb3⟩
  clear k0 k1 k2 k3
  obtain ⟨_, k0, k1, k2, k3⟩ := hF2.up hb3
  have hB := bt hB2 hb3
  clear K1 hF2 hb3 hO1 hB2
  have KA := within_c i 0 9 w3
  rw [show inB (i : Int) 0 9 = true from by rw [inB_iff]; omega] at KA
  have KB := within_c j 0 9 w3
  rw [show inB (j : Int) 0 9 = true from by rw [inB_iff]; omega] at KB
  go_wp2_with (first | (go_at_call 89; with_reducible refine KA.mono ?_; rintro e w' ⟨rfl, rfl⟩) | (go_at_call 89; with_reducible refine KB.mono ?_; rintro e w' ⟨rfl, rfl⟩))
  clear KA KB
  go_quiet ((first
    | (go_at_call 90; with_reducible exact qS (KI _))
    | (go_at_call 90; with_reducible exact qS (KJ _))))
  all_goals
    go_wp2_with fail
    go_ret
    exact ⟨rfl, bd hB _⟩
theorem deedText_c (kd a b : Int) (s : ByteArray) (w : World) (hs : s.size ≤ 1000000000000) (ht : Tb w) (h6 : 6 ≤ w.heap.size) :
    Calls Tryz.prog 35 #[.agg #[.int .i64 kd, .int .i64 a, .int .i64 b, .string s]] w (TextOf (dtX kd a b s) w) := by
  have hE : ∀ {l : List UInt8}, dtL kd a b s.data.toList = l → dtX kd a b s = bl l := fun h => by unfold dtX; rw [h]
  rcases hbr : bareB kd a b s with _ | _
  · have h9 : dtL kd a b s.data.toList = [] := by
      cases hd : dtL kd a b s.data.toList with
      | nil => rfl
      | cons c r =>
        have h8 := dt_of (kd := kd) (a := a) (b := b) (l := s.data.toList) (by rw [hd]; exact List.cons_ne_nil _ _)
        have e0 : ∀ {x : List UInt8}, s.data.toList = x → x = [] → emp s = true := fun h1 h2 => emp_iff.2 (nil_iff.2 (h1.trans h2))
        rw [hd] at h8
        generalize hl : s.data.toList = l at h8
        unfold bareB at hbr
        cases h8 with
        | back => rw [e0 hl rfl] at hbr; cases hbr
        | lead i j hi hj => rw [e0 hl rfl] at hbr; simp at hbr
        | behind l h => simp at hbr
        | name l h => simp at hbr
        | power n h => rw [e0 hl rfl] at hbr; simp at hbr
    rw [hE h9]
    exact pdt_bare kd a b s w hbr
  · have hb2 := hbr
    unfold bareB at hb2
    simp only [Bool.and_eq_true, Bool.or_eq_true, beq_iff_eq] at hb2
    obtain ⟨⟨h1, h2⟩, h3⟩ := hb2
    by_cases h0 : kd = 0
    · subst h0
      have hs0 : s = ⟨#[]⟩ := by rcases h3 with h | h | h; exact emp_iff.1 h; omega; omega
      have hl := nil_iff.1 hs0
      rcases ha : inB a 0 9 with _ | _
      · rw [hE (l := []) (by unfold dtL; rw [if_neg (by omega), if_neg, if_neg (by omega), if_neg (by omega), if_neg (by omega)]; rintro ⟨_, _, h9, _⟩; rw [← inB_iff, ha] at h9; cases h9)]
        exact pdt_no 0 a b s w hs hbr (.inl ⟨rfl, ha⟩)
      · rcases hb : inB b 0 9 with _ | _
        · rw [hE (l := []) (by unfold dtL; rw [if_neg (by omega), if_neg, if_neg (by omega), if_neg (by omega), if_neg (by omega)]; rintro ⟨_, _, _, h9⟩; rw [← inB_iff, hb] at h9; cases h9)]
          exact pdt_no 0 a b s w hs hbr (.inr (.inl ⟨rfl, ha, hb⟩))
        · rw [inB_iff] at ha hb
          obtain ⟨i, rfl⟩ := Int.eq_ofNat_of_zero_le ha.1
          obtain ⟨j, rfl⟩ := Int.eq_ofNat_of_zero_le hb.1
          have h9 := of_dt (DT.lead i j (by omega) (by omega))
          rw [hE (l := wLead ++ 32 :: (Lib.decDigits i ++ 32 :: Lib.decDigits j)) (by rw [hl]; exact h9)]
          rw [show bl (wLead ++ 32 :: (Lib.decDigits i ++ 32 :: Lib.decDigits j)) = bl (wLead ++ [32]) ++ decX i ++ bl [32] ++ decX j by unfold decX; rw [bl_app, bl_app, bl_app]; simp]
          exact pdt_lead i j s w hs hs0 (by omega) (by omega)
    by_cases h13 : kd = 1 ∨ kd = 3
    · have ha : a = 0 := by omega
      have hb : b = 0 := by omega
      subst ha
      subst hb
      rcases hok : mapOk (rdX s s.size) with _ | _
      · have hok' : ¬ tx s.data.toList = true := by rw [tx_map, hok]; simp
        rw [hE (l := []) (by unfold dtL; rw [if_neg (by omega), if_neg (by omega), if_neg (fun h => hok' h.2.1), if_neg (fun h => hok' h.2.1), if_neg (by omega)])]
        exact pdt_no kd 0 0 s w hs hbr (.inr (.inr (.inl ⟨h13, hok⟩)))
      · have htx : tx s.data.toList = true := by rw [tx_map, hok]
        have h9 : dtX kd 0 0 s = if kd = 4 then bl wBack else bl ((if kd = 1 then wBehind else wName) ++ [32]) ++ s := by
          rw [if_neg (by omega)]
          rcases h13 with rfl | rfl
          · rw [hE (of_dt (DT.behind _ htx)), if_pos rfl]
            conv => rhs; rw [← bl_of s, bl_app]
            simp
          · rw [hE (of_dt (DT.name _ htx)), if_neg (by omega)]
            conv => rhs; rw [← bl_of s, bl_app]
            simp
        rw [h9]
        refine pdt_yes kd s w hs ?_
        rcases h13 with h | h
        · exact .inl ⟨h, hok⟩
        · exact .inr (.inl ⟨h, hok⟩)
    by_cases h2' : kd = 2
    · subst h2'
      have hs0 : s = ⟨#[]⟩ := by rcases h3 with h | h | h; exact emp_iff.1 h; omega; omega
      have hb : b = 0 := by omega
      subst hb
      have hl := nil_iff.1 hs0
      rcases ha : inB a 0 999999 with _ | _
      · rw [hE (l := []) (by unfold dtL; rw [if_neg (by omega), if_neg (by omega), if_neg (by omega), if_neg (by omega), if_neg]; rintro ⟨_, _, _, h9⟩; rw [← inB_iff, ha] at h9; cases h9)]
        exact pdt_no 2 a 0 s w hs hbr (.inr (.inr (.inr (.inl ⟨rfl, ha⟩))))
      · rw [inB_iff] at ha
        obtain ⟨n, rfl⟩ := Int.eq_ofNat_of_zero_le ha.1
        have h9 := of_dt (DT.power n (by omega))
        rw [hE (l := wPower ++ 32 :: Lib.decDigits n) (by rw [hl]; exact h9)]
        rw [show bl (wPower ++ 32 :: Lib.decDigits n) = bl (wPower ++ [32]) ++ decX n by unfold decX; rw [bl_app]; simp]
        exact pdt_power n s w hs hs0 (by omega) ht h6
    · have hs0 : s = ⟨#[]⟩ := by rcases h3 with h | h | h; exact emp_iff.1 h; exact absurd (.inl h) h13; exact absurd (.inr h) h13
      have ha : a = 0 := by omega
      have hb : b = 0 := by omega
      subst ha
      subst hb
      by_cases h4 : kd = 4
      · subst h4
        rw [hE (l := wBack) (by rw [nil_iff.1 hs0]; rfl)]
        exact pdt_yes 4 s w hs (.inr (.inr ⟨rfl, hs0⟩))
      · rw [hE (l := []) (by unfold dtL; rw [if_neg (by omega), if_neg (by omega), if_neg (by omega), if_neg (by omega), if_neg (by omega)])]
        exact pdt_no kd 0 0 s w hs hbr (.inr (.inr (.inr (.inr ⟨h0, fun h => h13 (.inl h), h2', fun h => h13 (.inr h), h4⟩))))
end Go.Proofs.YtoinlkdmfclnbaaGreatDoor
