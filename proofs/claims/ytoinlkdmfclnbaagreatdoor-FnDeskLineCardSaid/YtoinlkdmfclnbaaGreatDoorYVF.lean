/- Bundle VF. -/
import Derived.WalkSmall
import Derived.Deep.RegionHeld3
import Derived.Test.YtoinlkdmfclnbaaGreatDoorYSh
import Derived.Test.YtoinlkdmfclnbaaGreatDoorYV10
import Derived.Test.YtoinlkdmfclnbaaGreatDoorYV16
import Derived.Test.YtoinlkdmfclnbaaGreatDoorYV18
namespace Go.Proofs.YtoinlkdmfclnbaaGreatDoor
set_option linter.unusedVariables false
section
open Go.RowKit
def Tb (w : World) : Prop := Lib.TabIs Tryz.prog w "internal/strconv.uint64pow10" .u64 Lib.pow10Tab
theorem Tb.below {w w' : World} {B : Nat} (h : Tb w) (hb : Below B w w') (hB : 6 ≤ B) : Tb w' :=
 var?_below hb (show Tryz.prog.globalNamed "internal/strconv.uint64pow10" = some 3 by kernel_rfl) (by omega) h
theorem below_grow_ (w : World) (k : Nat) (os : Array Obj) : Below w.heap.size w (Go.Sort.grow (w.drewN k) os) :=
 ⟨rfl, rfl, rfl, by show w.heap.size ≤ (w.heap ++ os).size; rw [Array.size_append]; omega, fun j hj => by show (w.heap ++ os)[j]? = _; rw [Array.getElem?_append_left hj]⟩
theorem itoa_c (n : Nat) (w : World) (hn : n ≤ 999999) (ht : Tb w) :
    Calls Tryz.prog 90 #[.int .i64 (n : Int)] w fun e w' => e = .returned (.string (decX n)) ∧ Below w.heap.size w w' :=
 (strconv_Itoa (n : Int) (by omega) (by omega) w ht).mono fun e w' ⟨h, k, os, hw⟩ => ⟨by rw [h, Lib.itoa_nonneg]; rfl, by rw [hw]; exact below_grow_ _ _ _⟩
theorem itoa_s (n : Nat) (w : World) (hn : n ≤ 9) :
    Calls Tryz.prog 90 #[.int .i64 (n : Int)] w fun e w' => e = .returned (.string (decX n)) ∧ w = w' :=
 (strconv_Itoa_small n (by omega) w).mono fun e w' ⟨h, hw⟩ => ⟨h, hw.symm⟩
set_option maxRecDepth 100000 in
set_option maxHeartbeats 800000 in
theorem pdt_bare (kd a b : Int) (s : ByteArray) (w : World) (hbr : bareB kd a b s = false) :
    Calls Tryz.prog 35 #[.agg #[.int .i64 kd, .int .i64 a, .int .i64 b, .string s]] w (TextOf ⟨#[]⟩ w) := by
 have hF := Four.made w 55 kd a b s
 have hb1 : Below w.heap.size w (w.alloc (.cells #[.int .i64 kd, .int .i64 a, .int .i64 b, .string s] 55)) := (Below.refl _ _).alloc (Nat.le_refl _) _
 have K0 := bare_c kd a b s (w.alloc (.cells #[.int .i64 kd, .int .i64 a, .int .i64 b, .string s] 55))
 rw [hbr] at K0
 obtain ⟨_, k0, k1, k2, k3⟩ := id hF
 clear hbr hF
 go_enter Tryz.func35, Tryz.ntmps35
 go_wp2_with fail
 generalize w.alloc (.cells #[.int .i64 _, .int .i64 a, .int .i64 b, .string s] 55) = w1 at *
 refine K0.mono ?_
 rintro e w2 ⟨rfl, hb2⟩
 have hB := bt hb1 hb2
 clear K0 hb1 hb2 k0 k1 k2 k3
 go_wp2_with fail
 go_ret
 exact ⟨rfl, hB⟩
set_option maxRecDepth 100000 in
set_option maxHeartbeats 800000 in
theorem pdt_no (kd a b : Int) (s : ByteArray) (w : World) (hs : s.size ≤ 1000000000000) (hbr : bareB kd a b s = true)
    (hno : (kd = 0 ∧ inB a 0 9 = false) ∨ (kd = 0 ∧ inB a 0 9 = true ∧ inB b 0 9 = false) ∨ ((kd = 1 ∨ kd = 3) ∧ mapOk (rdX s s.size) = false) ∨ (kd = 2 ∧ inB a 0 999999 = false) ∨
     (¬ kd = 0 ∧ ¬ kd = 1 ∧ ¬ kd = 2 ∧ ¬ kd = 3 ∧ ¬ kd = 4)) :
    Calls Tryz.prog 35 #[.agg #[.int .i64 kd, .int .i64 a, .int .i64 b, .string s]] w (TextOf ⟨#[]⟩ w) := by
 have hF := Four.made w 55 kd a b s
 have hb1 : Below w.heap.size w (w.alloc (.cells #[.int .i64 kd, .int .i64 a, .int .i64 b, .string s] 55)) := (Below.refl _ _).alloc (Nat.le_refl _) _
 have K0 := bare_c kd a b s (w.alloc (.cells #[.int .i64 kd, .int .i64 a, .int .i64 b, .string s] 55))
 rw [hbr] at K0
 have K1 := fun W => readMap_c s W hs
 clear hbr
 rcases hno with ⟨rfl, hi⟩ | ⟨rfl, hi, hj⟩ | ⟨rfl | rfl, hok⟩ | ⟨rfl, hi⟩ | ⟨h0, h1, h2, h3, h4⟩
 all_goals
  first
   | (rw [hok] at K1; clear hok)
   | (generalize mapOk (rdX s s.size) = ok at K1)
  (try (have q0 := neqz h0; have q4 : (kd == 1) = false := by simpa using h1; have q5 : (kd == 2) = false := by simpa using h2; have q6 : (kd == 3) = false := by simpa using h3; have q7 : (kd == 4) = false := by simpa using h4; clear h0 h1 h2 h3 h4))
  obtain ⟨_, k0, k1, k2, k3⟩ := id hF
  go_enter Tryz.func35, Tryz.ntmps35
  go_wp2_with fail
  generalize w.alloc (.cells #[.int .i64 _, .int .i64 a, .int .i64 b, .string s] 55) = w1 at *
  refine K0.mono ?_
  rintro e w2 ⟨rfl, hb2⟩
  have hF2 := hF.up hb2
  have hB2 := bt hb1 hb2
  clear K0 hb1 hb2 k0 k1 k2 k3 hF
  obtain ⟨_, k0, k1, k2, k3⟩ := id hF2
  go_wp2_with fail
  refine (K1 _).mono ?_
  rintro e w3 ⟨A1, n1, c1, rfl, hO1, hb3⟩
  clear k0 k1 k2 k3
  obtain ⟨_, k0, k1, k2, k3⟩ := hF2.up hb3
  have hB := bt hB2 hb3
  clear K1 hF2 hb3 hO1 hB2
  have KB := within_c b 0 9 w3
  have KC := within_c a 0 9 w3
  have KD := within_c a 0 999999 w3
  (try rw [hj] at KB)
  (try rw [hi] at KC)
  (try rw [hi] at KD)
  go_wp2_with (first | (go_at_call 89; with_reducible refine KB.mono ?_; rintro e w' ⟨rfl, rfl⟩) | (go_at_call 89; with_reducible refine KC.mono ?_; rintro e w' ⟨rfl, rfl⟩) | (go_at_call 89; with_reducible refine KD.mono ?_; rintro e w' ⟨rfl, rfl⟩))
  go_ret
  exact ⟨rfl, hB⟩
set_option maxRecDepth 100000 in
set_option maxHeartbeats 800000 in
theorem pdt_yes (kd : Int) (s : ByteArray) (w : World) (hs : s.size ≤ 1000000000000) (hk : (kd = 1 ∧ mapOk (rdX s s.size) = true) ∨ (kd = 3 ∧ mapOk (rdX s s.size) = true) ∨ kd = 4 ∧ s = ⟨#[]⟩) :
    Calls Tryz.prog 35 #[.agg #[.int .i64 kd, .int .i64 0, .int .i64 0, .string s]] w (TextOf (if kd = 4 then bl wBack else bl ((if kd = 1 then wBehind else wName) ++ [32]) ++ s) w) := by
 have hF := Four.made w 55 kd 0 0 s
 have hb1 : Below w.heap.size w (w.alloc (.cells #[.int .i64 kd, .int .i64 0, .int .i64 0, .string s] 55)) := (Below.refl _ _).alloc (Nat.le_refl _) _
 have K0 := bare_c kd 0 0 s (w.alloc (.cells #[.int .i64 kd, .int .i64 0, .int .i64 0, .string s] 55))
 have hbr : bareB kd 0 0 s = true := by
  unfold bareB
  rcases hk with ⟨rfl, _⟩ | ⟨rfl, _⟩ | ⟨rfl, h⟩
  · simp
  · simp
  · rw [emp_iff.2 h]; rfl
 rw [hbr] at K0
 have K1 := fun W => readMap_c s W hs
 clear hbr
 have hna : ¬ (9223372036854775807 < (⟨#[98, 101, 104, 105, 110, 100, 32]⟩ : ByteArray).size + s.size) := by rw [show (⟨#[98, 101, 104, 105, 110, 100, 32]⟩ : ByteArray).size = 7 from rfl]; omega
 have hnb : ¬ (9223372036854775807 < (⟨#[110, 97, 109, 101, 32]⟩ : ByteArray).size + s.size) := by rw [show (⟨#[110, 97, 109, 101, 32]⟩ : ByteArray).size = 5 from rfl]; omega
 rcases hk with ⟨rfl, hok⟩ | ⟨rfl, hok⟩ | ⟨rfl, hs0⟩
 all_goals
  first
   | rw [show (if (1 : Int) = 4 then bl wBack else bl ((if (1 : Int) = 1 then wBehind else wName) ++ [32]) ++ s) = (⟨#[98, 101, 104, 105, 110, 100, 32]⟩ : ByteArray) ++ s from rfl]
   | rw [show (if (3 : Int) = 4 then bl wBack else bl ((if (3 : Int) = 1 then wBehind else wName) ++ [32]) ++ s) = (⟨#[110, 97, 109, 101, 32]⟩ : ByteArray) ++ s from rfl]
   | rw [show (if (4 : Int) = 4 then bl wBack else bl ((if (4 : Int) = 1 then wBehind else wName) ++ [32]) ++ s) = (⟨#[98, 97, 99, 107]⟩ : ByteArray) from rfl]
  first
   | (rw [hok] at K1; clear hok)
   | (generalize mapOk (rdX s s.size) = ok at K1)
  (try clear hs0)
  obtain ⟨_, k0, k1, k2, k3⟩ := id hF
  go_enter Tryz.func35, Tryz.ntmps35
  go_wp2_with fail
  generalize w.alloc (.cells #[.int .i64 _, .int .i64 0, .int .i64 0, .string s] 55) = w1 at *
  refine K0.mono ?_
  rintro e w2 ⟨rfl, hb2⟩
  have hF2 := hF.up hb2
  have hB2 := bt hb1 hb2
  clear K0 hb1 hb2 k0 k1 k2 k3 hF
  obtain ⟨_, k0, k1, k2, k3⟩ := id hF2
  go_wp2_with fail
  refine (K1 _).mono ?_
  rintro e w3 ⟨A1, n1, c1, rfl, hO1, hb3⟩
  clear k0 k1 k2 k3
  obtain ⟨_, k0, k1, k2, k3⟩ := hF2.up hb3
  have hB := bt hB2 hb3
  clear K1 hF2 hb3 hO1 hB2
  go_wp2_with fail
  go_ret
  exact ⟨rfl, hB⟩
set_option maxRecDepth 100000 in
set_option maxHeartbeats 800000 in
theorem pdt_power (n : Nat) (s : ByteArray) (w : World) (hs : s.size ≤ 1000000000000) (hs0 : s = ⟨#[]⟩) (hn : n ≤ 999999) (ht : Tb w) (h6 : 6 ≤ w.heap.size) :
    Calls Tryz.prog 35 #[.agg #[.int .i64 2, .int .i64 (n : Int), .int .i64 0, .string s]] w (TextOf (bl (wPower ++ [32]) ++ decX n) w) := by
 rw [show bl (wPower ++ [32]) = (⟨#[112, 111, 119, 101, 114, 32]⟩ : ByteArray) from rfl]
 have hF := Four.made w 55 2 n 0 s
 have hb1 : Below w.heap.size w (w.alloc (.cells #[.int .i64 2, .int .i64 (n : Int), .int .i64 0, .string s] 55)) := (Below.refl _ _).alloc (Nat.le_refl _) _
 have K0 := bare_c 2 n 0 s (w.alloc (.cells #[.int .i64 2, .int .i64 (n : Int), .int .i64 0, .string s] 55))
 rw [show bareB 2 n 0 s = true from by unfold bareB; rw [emp_iff.2 hs0]; simp] at K0
 have K1 := fun W => readMap_c s W hs
 have hdz := decX_size n
 have hna : ¬ (9223372036854775807 < (⟨#[112, 111, 119, 101, 114, 32]⟩ : ByteArray).size + (decX n).size) := by rw [show (⟨#[112, 111, 119, 101, 114, 32]⟩ : ByteArray).size = 6 from rfl]; omega
 have KN := fun W => itoa_c n W hn
 generalize mapOk (rdX s s.size) = ok at K1
 generalize decX n = T at *
 clear hs0 hdz
 obtain ⟨_, k0, k1, k2, k3⟩ := id hF
 go_enter Tryz.func35, Tryz.ntmps35
 go_wp2_with fail
 generalize w.alloc (.cells #[.int .i64 _, .int .i64 (n : Int), .int .i64 0, .string s] 55) = w1 at *
 refine K0.mono ?_
 rintro e w2 ⟨rfl, hb2⟩
 have hF2 := hF.up hb2
 have hB2 := bt hb1 hb2
 clear K0 hb1 hb2 k0 k1 k2 k3 hF
 obtain ⟨_, k0, k1, k2, k3⟩ := id hF2
 go_wp2_with fail
 refine (K1 _).mono ?_
 rintro e w3 ⟨A1, n1, c1, rfl, hO1, hb3⟩
 clear k0 k1 k2 k3
 obtain ⟨_, k0, k1, k2, k3⟩ := hF2.up hb3
 have hB := bt hB2 hb3
 have ht3 := ht.below hB h6
 clear K1 hF2 hb3 hO1 hB2
 have KD := within_c n 0 999999 w3
 rw [show inB (n : Int) 0 999999 = true from by rw [inB_iff]; omega] at KD
 go_wp2_with (first | (go_at_call 89; with_reducible refine KD.mono ?_; rintro e w' ⟨rfl, rfl⟩) | (go_at_call 90; with_reducible refine (KN _ ht3).mono ?_; rintro e w4 ⟨rfl, hb4⟩; have hB4 := bt hB hb4))
 go_ret
 exact ⟨rfl, hB4⟩
set_option maxRecDepth 100000 in
set_option maxHeartbeats 800000 in
theorem pdt_lead (i j : Nat) (s : ByteArray) (w : World) (hs : s.size ≤ 1000000000000) (hs0 : s = ⟨#[]⟩) (hi : i ≤ 9) (hj : j ≤ 9) :
    Calls Tryz.prog 35 #[.agg #[.int .i64 0, .int .i64 (i : Int), .int .i64 (j : Int), .string s]] w (TextOf (bl (wLead ++ [32]) ++ decX i ++ bl [32] ++ decX j) w) := by
 rw [show bl (wLead ++ [32]) = (⟨#[108, 101, 97, 100, 32]⟩ : ByteArray) from rfl, show bl [32] = (⟨#[32]⟩ : ByteArray) from rfl]
 have hd1 : (decX i).size = 1 := by rw [decX_small (by omega)]; rfl
 have hd2 : (decX j).size = 1 := by rw [decX_small (by omega)]; rfl
 have hF := Four.made w 55 0 i j s
 have hb1 : Below w.heap.size w (w.alloc (.cells #[.int .i64 0, .int .i64 (i : Int), .int .i64 (j : Int), .string s] 55)) := (Below.refl _ _).alloc (Nat.le_refl _) _
 have K0 := bare_c 0 i j s (w.alloc (.cells #[.int .i64 0, .int .i64 (i : Int), .int .i64 (j : Int), .string s] 55))
 rw [show bareB 0 i j s = true from by unfold bareB; rw [emp_iff.2 hs0]; simp] at K0
 have K1 := fun W => readMap_c s W hs
 have KI := fun W => itoa_s i W hi
 have KJ := fun W => itoa_s j W hj
 generalize mapOk (rdX s s.size) = ok at K1
 generalize decX i = T at *
 generalize decX j = U at *
 clear hs0
 obtain ⟨_, k0, k1, k2, k3⟩ := id hF
 go_enter Tryz.func35, Tryz.ntmps35
 go_wp2_with fail
 generalize w.alloc (.cells #[.int .i64 _, .int .i64 (i : Int), .int .i64 (j : Int), .string s] 55) = w1 at *
 refine K0.mono ?_
 rintro e w2 ⟨rfl, hb2⟩
 have hF2 := hF.up hb2
 have hB2 := bt hb1 hb2
 clear K0 hb1 hb2 k0 k1 k2 k3 hF
 obtain ⟨_, k0, k1, k2, k3⟩ := id hF2
 go_wp2_with fail
 refine (K1 _).mono ?_
 rintro e w3 ⟨A1, n1, c1, rfl, hO1, hb3⟩
 clear k0 k1 k2 k3
 obtain ⟨_, k0, k1, k2, k3⟩ := hF2.up hb3
 have hB := bt hB2 hb3
 clear K1 hF2 hb3 hO1 hB2
 have KA := within_c i 0 9 w3
 rw [show inB (i : Int) 0 9 = true from by rw [inB_iff]; omega] at KA
 have KB := within_c j 0 9 w3
 rw [show inB (j : Int) 0 9 = true from by rw [inB_iff]; omega] at KB
 go_wp2_with (first | (go_at_call 89; with_reducible refine KA.mono ?_; rintro e w' ⟨rfl, rfl⟩) | (go_at_call 89; with_reducible refine KB.mono ?_; rintro e w' ⟨rfl, rfl⟩))
 clear KA KB
 go_quiet ((first
  | (go_at_call 90; with_reducible exact qS (KI _))
  | (go_at_call 90; with_reducible exact qS (KJ _))))
 all_goals
  go_wp2_with fail
  go_ret
  exact ⟨rfl, bd hB _⟩
theorem deedText_c (kd a b : Int) (s : ByteArray) (w : World) (hs : s.size ≤ 1000000000000) (ht : Tb w) (h6 : 6 ≤ w.heap.size) :
    Calls Tryz.prog 35 #[.agg #[.int .i64 kd, .int .i64 a, .int .i64 b, .string s]] w (TextOf (dtX kd a b s) w) := by
 have hE : ∀ {l : List UInt8}, dtL kd a b s.data.toList = l → dtX kd a b s = bl l := fun h => by unfold dtX; rw [h]
 rcases hbr : bareB kd a b s with _ | _
 · have h9 : dtL kd a b s.data.toList = [] := by
    cases hd : dtL kd a b s.data.toList with
    | nil => rfl
    | cons c r =>
     have h8 := dt_of (kd := kd) (a := a) (b := b) (l := s.data.toList) (by rw [hd]; exact List.cons_ne_nil _ _)
     have e0 : ∀ {x : List UInt8}, s.data.toList = x → x = [] → emp s = true := fun h1 h2 => emp_iff.2 (nil_iff.2 (h1.trans h2))
     rw [hd] at h8
     generalize hl : s.data.toList = l at h8
     unfold bareB at hbr
     cases h8 with
     | back => rw [e0 hl rfl] at hbr; cases hbr
     | lead i j hi hj => rw [e0 hl rfl] at hbr; simp at hbr
     | behind l h => simp at hbr
     | name l h => simp at hbr
     | power n h => rw [e0 hl rfl] at hbr; simp at hbr
   rw [hE h9]
   exact pdt_bare kd a b s w hbr
 · have hb2 := hbr
   unfold bareB at hb2
   simp only [Bool.and_eq_true, Bool.or_eq_true, beq_iff_eq] at hb2
   obtain ⟨⟨h1, h2⟩, h3⟩ := hb2
   by_cases h0 : kd = 0
   · subst h0
     have hs0 : s = ⟨#[]⟩ := by rcases h3 with h | h | h; exact emp_iff.1 h; omega; omega
     have hl := nil_iff.1 hs0
     rcases ha : inB a 0 9 with _ | _
     · rw [hE (l := []) (by unfold dtL; rw [if_neg (by omega), if_neg, if_neg (by omega), if_neg (by omega), if_neg (by omega)]; rintro ⟨_, _, h9, _⟩; rw [← inB_iff, ha] at h9; cases h9)]
       exact pdt_no 0 a b s w hs hbr (.inl ⟨rfl, ha⟩)
     · rcases hb : inB b 0 9 with _ | _
       · rw [hE (l := []) (by unfold dtL; rw [if_neg (by omega), if_neg, if_neg (by omega), if_neg (by omega), if_neg (by omega)]; rintro ⟨_, _, _, h9⟩; rw [← inB_iff, hb] at h9; cases h9)]
         exact pdt_no 0 a b s w hs hbr (.inr (.inl ⟨rfl, ha, hb⟩))
       · rw [inB_iff] at ha hb
         obtain ⟨i, rfl⟩ := Int.eq_ofNat_of_zero_le ha.1
         obtain ⟨j, rfl⟩ := Int.eq_ofNat_of_zero_le hb.1
         have h9 := of_dt (DT.lead i j (by omega) (by omega))
         rw [hE (l := wLead ++ 32 :: (Lib.decDigits i ++ 32 :: Lib.decDigits j)) (by rw [hl]; exact h9)]
         rw [show bl (wLead ++ 32 :: (Lib.decDigits i ++ 32 :: Lib.decDigits j)) = bl (wLead ++ [32]) ++ decX i ++ bl [32] ++ decX j by unfold decX; rw [bl_app, bl_app, bl_app]; simp]
         exact pdt_lead i j s w hs hs0 (by omega) (by omega)
   by_cases h13 : kd = 1 ∨ kd = 3
   · have ha : a = 0 := by omega
     have hb : b = 0 := by omega
     subst ha
     subst hb
     rcases hok : mapOk (rdX s s.size) with _ | _
     · have hok' : ¬ tx s.data.toList = true := by rw [tx_map, hok]; simp
       rw [hE (l := []) (by unfold dtL; rw [if_neg (by omega), if_neg (by omega), if_neg (fun h => hok' h.2.1), if_neg (fun h => hok' h.2.1), if_neg (by omega)])]
       exact pdt_no kd 0 0 s w hs hbr (.inr (.inr (.inl ⟨h13, hok⟩)))
     · have htx : tx s.data.toList = true := by rw [tx_map, hok]
       have h9 : dtX kd 0 0 s = if kd = 4 then bl wBack else bl ((if kd = 1 then wBehind else wName) ++ [32]) ++ s := by
        rw [if_neg (by omega)]
        rcases h13 with rfl | rfl
        · rw [hE (of_dt (DT.behind _ htx)), if_pos rfl]
          conv => rhs; rw [← bl_of s, bl_app]
          simp
        · rw [hE (of_dt (DT.name _ htx)), if_neg (by omega)]
          conv => rhs; rw [← bl_of s, bl_app]
          simp
       rw [h9]
       refine pdt_yes kd s w hs ?_
       rcases h13 with h | h
       · exact .inl ⟨h, hok⟩
       · exact .inr (.inl ⟨h, hok⟩)
   by_cases h2' : kd = 2
   · subst h2'
     have hs0 : s = ⟨#[]⟩ := by rcases h3 with h | h | h; exact emp_iff.1 h; omega; omega
     have hb : b = 0 := by omega
     subst hb
     have hl := nil_iff.1 hs0
     rcases ha : inB a 0 999999 with _ | _
     · rw [hE (l := []) (by unfold dtL; rw [if_neg (by omega), if_neg (by omega), if_neg (by omega), if_neg (by omega), if_neg]; rintro ⟨_, _, _, h9⟩; rw [← inB_iff, ha] at h9; cases h9)]
       exact pdt_no 2 a 0 s w hs hbr (.inr (.inr (.inr (.inl ⟨rfl, ha⟩))))
     · rw [inB_iff] at ha
       obtain ⟨n, rfl⟩ := Int.eq_ofNat_of_zero_le ha.1
       have h9 := of_dt (DT.power n (by omega))
       rw [hE (l := wPower ++ 32 :: Lib.decDigits n) (by rw [hl]; exact h9)]
       rw [show bl (wPower ++ 32 :: Lib.decDigits n) = bl (wPower ++ [32]) ++ decX n by unfold decX; rw [bl_app]; simp]
       exact pdt_power n s w hs hs0 (by omega) ht h6
   · have hs0 : s = ⟨#[]⟩ := by rcases h3 with h | h | h; exact emp_iff.1 h; exact absurd (.inl h) h13; exact absurd (.inr h) h13
     have ha : a = 0 := by omega
     have hb : b = 0 := by omega
     subst ha
     subst hb
     by_cases h4 : kd = 4
     · subst h4
       rw [hE (l := wBack) (by rw [nil_iff.1 hs0]; rfl)]
       exact pdt_yes 4 s w hs (.inr (.inr ⟨rfl, hs0⟩))
     · rw [hE (l := []) (by unfold dtL; rw [if_neg (by omega), if_neg (by omega), if_neg (by omega), if_neg (by omega), if_neg (by omega)])]
       exact pdt_no kd 0 0 s w hs hbr (.inr (.inr (.inr (.inr ⟨h0, fun h => h13 (.inl h), h2', fun h => h13 (.inr h), h4⟩))))
end
section
open Go.RowKit
structure Glo (w : World) : Prop where
 six : 6 ≤ w.heap.size
 tab : Tb w
 max : ∃ m, w.cell? ⟨0, 0, none⟩ = some (.int .i64 m)
 syn : ∃ ev, w.cell? ⟨1, 0, none⟩ = some ev ∧ (ev = .nilIface ∨ ∃ te pe, ev = .iface te pe)
 rng : ∃ ev, w.cell? ⟨2, 0, none⟩ = some ev ∧ (ev = .nilIface ∨ ∃ te pe, ev = .iface te pe)
theorem Glo.below {w w' : World} {B : Nat} (h : Glo w) (hb : Below B w w') (hB : 6 ≤ B) : Glo w' := by
 have hk : ∀ g, g < 6 → w'.cell? ⟨g, 0, none⟩ = w.cell? ⟨g, 0, none⟩ := fun g hg => hb.cell (p := ⟨g, 0, none⟩) (by show g < B; omega)
 obtain ⟨m, hm⟩ := h.max
 obtain ⟨e1, h1, k1⟩ := h.syn
 obtain ⟨e2, h2, k2⟩ := h.rng
 exact ⟨Nat.le_trans h.six hb.size, h.tab.below hb hB, ⟨m, (hk _ (by decide)).trans hm⟩, ⟨e1, (hk _ (by decide)).trans h1, k1⟩, ⟨e2, (hk _ (by decide)).trans h2, k2⟩⟩
theorem Glo.up {w w' : World} (h : Glo w) (hb : Below w.heap.size w w') : Glo w' := h.below hb h.six
theorem strClone_c (s : ByteArray) (w : World) (hs : s.size ≤ 281474976710656) :
    Calls Tryz.prog 98 #[.string s] w fun e w' => e = .returned (.string s) ∧ Below w.heap.size w w' := by
 go_enter Tryz.func98, Tryz.ntmps98
 go_wp2_with fail
 refine (stringslite_Clone s w hs).mono ?_
 rintro e w1 ⟨rfl, hb1⟩
 go_wp2_with fail
 go_ret
 exact ⟨rfl, hb1⟩
theorem cutX (l : List UInt8) : ∃ u v b, Lib.cut l [32] = (u, v, b) ∧ u.length + v.length ≤ l.length := by
 rcases spl_any 32 l with ⟨_, _, h⟩ | ⟨u, v, _, rfl, _, h⟩
 · exact ⟨l, [], false, h, by simp⟩
 · exact ⟨u, v, true, h, by rw [spl_len]; omega⟩
-- QF
set_option maxRecDepth 100000 in
set_option maxHeartbeats 800000 in
theorem rdd_other (s : ByteArray) (w : World) (hsz : s.size ≤ 2000000) (hg : Glo w) (u v : List UInt8) (b : Bool) (hc : Lib.cut s.data.toList [32] = (u, v, b)) (h1 : u ≠ wLead) (h2 : u ≠ wBehind) (h3 : u ≠ wPower) (h4 : u ≠ wName) (h5 : u ≠ wBack) :
    Calls Tryz.prog 41 #[.string s] w (RdOut ((0, 0, 0, []), false) w) := by
 have q1 : (u == [108, 101, 97, 100]) = false := beqF h1
 have q2 : (u == [98, 101, 104, 105, 110, 100]) = false := beqF h2
 have q3 : (u == [112, 111, 119, 101, 114]) = false := beqF h3
 have q4 : (u == [110, 97, 109, 101]) = false := beqF h4
 have q5 : (u == [98, 97, 99, 107]) = false := beqF h5
 clear h1 h2 h3 h4 h5
 have hR1 := FourF.made w 55 0 0 0 ⟨#[]⟩
 have hb1 := below_new w (.cells #[.int .i64 0, .int .i64 0, .int .i64 0, .string ⟨#[]⟩] 55)
 have hg1 := hg.up hb1
 obtain ⟨m, hm⟩ := hg1.max
 have K1 := strings_Cut s ⟨#[32]⟩ m _ (by omega) hm
 rw [hc] at K1
 simp only [] at K1
 clear hm hc
 go_enter Tryz.func41, Tryz.ntmps41
 go_wp2_with fail
 generalize w.alloc (.cells #[.int .i64 0, .int .i64 0, .int .i64 0, .string ⟨#[]⟩] 55) = w1 at *
 refine K1.mono ?_
 rintro e w2 ⟨rfl, nd, rfl⟩
 have hz1 := hR1.1.1
 have hbA := below_new (w1.drewN nd) (.cells #[.int .i64 0, .int .i64 0, .int .i64 0, .string ⟨#[]⟩] 55)
 have hB2 := bt (bd hb1 nd) hbA
 have hR2 : FourF ((w1.drewN nd).alloc (.cells #[.int .i64 0, .int .i64 0, .int .i64 0, .string ⟨#[]⟩] 55)) w.heap.size 0 0 0 ⟨#[]⟩ := FourF.up (w := w1.drewN nd) hR1 hbA
 have hD2 : FourF ((w1.drewN nd).alloc (.cells #[.int .i64 0, .int .i64 0, .int .i64 0, .string ⟨#[]⟩] 55)) w1.heap.size 0 0 0 ⟨#[]⟩ := FourF.made (w1.drewN nd) 55 0 0 0 ⟨#[]⟩
 have hg2 : Glo ((w1.drewN nd).alloc (.cells #[.int .i64 0, .int .i64 0, .int .i64 0, .string ⟨#[]⟩] 55)) := hg.up hB2
 clear K1 hR1 hb1 hg1 hbA hg
 obtain ⟨⟨_, r0, r1, r2, r3⟩, f0, f1, f2, f3⟩ := id hR2
 obtain ⟨⟨_, d0, d1, d2, d3⟩, e0, e1, e2, e3⟩ := id hD2
 have hend := (((hB2.setCell (p := ⟨w.heap.size, 0, none⟩) (Nat.le_refl _) (.int .i64 0)).setCell (p := ⟨w.heap.size, 1, none⟩) (Nat.le_refl _) (.int .i64 0)).setCell (p := ⟨w.heap.size, 2, none⟩) (Nat.le_refl _) (.int .i64 0)).setCell (p := ⟨w.heap.size, 3, none⟩) (Nat.le_refl _) (.string ⟨#[]⟩)
 have HT := Lib.hid (hR2.set 0 0 0 ⟨#[]⟩)
 have HE := Lib.hid hend
 clear hend hR2 hD2 hg2 hB2
 go_wp2_with fail
 (try simp only [Exit.inBlock, Exit.then])
 refine bodyPost_ret (v := .tuple #[.agg #[.int .i64 0, .int .i64 0, .int .i64 0, .string ⟨#[]⟩], .bool false]) ?_ rfl ⟨rfl, HE.out⟩
 exact Eq.trans (results_four_tmp (p := 2) (r := 3) rfl _ _ w.heap.size _ _ _ _ _ rfl HT.out.1.2 Tryz.underlying55 rfl deed_size) rfl
set_option maxRecDepth 100000 in
set_option maxHeartbeats 800000 in
theorem rdd_back (s : ByteArray) (w : World) (hsz : s.size ≤ 2000000) (hg : Glo w) (v : List UInt8) (b : Bool) (hc : Lib.cut s.data.toList [32] = ([98, 97, 99, 107], v, b)) (r : Dl × Bool) (hr1 : dtL 4 0 0 [] = s.data.toList → r = ((4, 0, 0, []), true)) (hr2 : ¬ dtL 4 0 0 [] = s.data.toList → r = ((0, 0, 0, []), false)) :
    Calls Tryz.prog 41 #[.string s] w (RdOut r w) := by
 have hg0 := hg
 have hR1 := FourF.made w 55 0 0 0 ⟨#[]⟩
 have hb1 := below_new w (.cells #[.int .i64 0, .int .i64 0, .int .i64 0, .string ⟨#[]⟩] 55)
 have hg1 := hg.up hb1
 obtain ⟨m, hm⟩ := hg1.max
 have K1 := strings_Cut s ⟨#[32]⟩ m _ (by omega) hm
 rw [hc] at K1
 simp only [] at K1
 clear hm hc
 go_enter Tryz.func41, Tryz.ntmps41
 go_wp2_with fail
 generalize w.alloc (.cells #[.int .i64 0, .int .i64 0, .int .i64 0, .string ⟨#[]⟩] 55) = w1 at *
 refine K1.mono ?_
 rintro e w2 ⟨rfl, nd, rfl⟩
 have hz1 := hR1.1.1
 have hbA := below_new (w1.drewN nd) (.cells #[.int .i64 0, .int .i64 0, .int .i64 0, .string ⟨#[]⟩] 55)
 have hB2 := bt (bd hb1 nd) hbA
 have hR2 : FourF ((w1.drewN nd).alloc (.cells #[.int .i64 0, .int .i64 0, .int .i64 0, .string ⟨#[]⟩] 55)) w.heap.size 0 0 0 ⟨#[]⟩ := FourF.up (w := w1.drewN nd) hR1 hbA
 have hD2 : FourF ((w1.drewN nd).alloc (.cells #[.int .i64 0, .int .i64 0, .int .i64 0, .string ⟨#[]⟩] 55)) w1.heap.size 0 0 0 ⟨#[]⟩ := FourF.made (w1.drewN nd) 55 0 0 0 ⟨#[]⟩
 have hg2 : Glo ((w1.drewN nd).alloc (.cells #[.int .i64 0, .int .i64 0, .int .i64 0, .string ⟨#[]⟩] 55)) := hg.up hB2
 clear K1 hR1 hb1 hg1 hbA hg
 obtain ⟨⟨_, r0, r1, r2, r3⟩, f0, f1, f2, f3⟩ := id hR2
 obtain ⟨⟨_, d0, d1, d2, d3⟩, e0, e1, e2, e3⟩ := id hD2
 have hch : Chg w1.heap.size (w1.heap.size + 1) (((w1.drewN nd).alloc (.cells #[.int .i64 0, .int .i64 0, .int .i64 0, .string ⟨#[]⟩] 55))) (((((((w1.drewN nd).alloc (.cells #[.int .i64 0, .int .i64 0, .int .i64 0, .string ⟨#[]⟩] 55))).setCell ⟨w1.heap.size, 0, none⟩ (.int .i64 4)).setCell ⟨w1.heap.size, 1, none⟩ (.int .i64 0)).setCell ⟨w1.heap.size, 2, none⟩ (.int .i64 0)).setCell ⟨w1.heap.size, 3, none⟩ (.string ⟨#[]⟩)) :=
  ((((((Chg.refl _ _ _).setCell (p := ⟨w1.heap.size, 0, none⟩) (Nat.le_refl _) (Nat.lt_succ_self _) _).setCell (p := ⟨w1.heap.size, 1, none⟩) (Nat.le_refl _) (Nat.lt_succ_self _) _).setCell (p := ⟨w1.heap.size, 2, none⟩) (Nat.le_refl _) (Nat.lt_succ_self _) _).setCell (p := ⟨w1.heap.size, 3, none⟩) (Nat.le_refl _) (Nat.lt_succ_self _) _))
 have hD8 : FourF (((((((w1.drewN nd).alloc (.cells #[.int .i64 0, .int .i64 0, .int .i64 0, .string ⟨#[]⟩] 55))).setCell ⟨w1.heap.size, 0, none⟩ (.int .i64 4)).setCell ⟨w1.heap.size, 1, none⟩ (.int .i64 0)).setCell ⟨w1.heap.size, 2, none⟩ (.int .i64 0)).setCell ⟨w1.heap.size, 3, none⟩ (.string ⟨#[]⟩)) w1.heap.size 4 0 0 ⟨#[]⟩ := (hD2.set 4 0 0 ⟨#[]⟩)
 have hR8 := hR2.chg hch (.inl (by omega))
 have hB8 : Below w.heap.size w (((((((w1.drewN nd).alloc (.cells #[.int .i64 0, .int .i64 0, .int .i64 0, .string ⟨#[]⟩] 55))).setCell ⟨w1.heap.size, 0, none⟩ (.int .i64 4)).setCell ⟨w1.heap.size, 1, none⟩ (.int .i64 0)).setCell ⟨w1.heap.size, 2, none⟩ (.int .i64 0)).setCell ⟨w1.heap.size, 3, none⟩ (.string ⟨#[]⟩)) := hB2.trans (hch.belowLo (B := w.heap.size) (by omega) hB2.size)
 have hg8 := hg0.up hB8
 have HG8 := Lib.hid hg8
 have HR8 := Lib.hid hR8
 have HD8 := Lib.hid hD8
 have HB8 := Lib.hid hB8
 (try clear d0 d1 d2 d3 e0 e1 e2 e3 r0 r1 r2 r3 f0 f1 f2 f3)
 obtain ⟨⟨_, d0, d1, d2, d3⟩, e0, e1, e2, e3⟩ := id hD2
 obtain ⟨⟨_, g0, g1, g2, g3⟩, _, _, _, _⟩ := id hD8
 clear hch hR8 hD8 hB8 hg8 hR2 hD2 hB2
 go_wp2_with fail
 (try clear d0 d1 d2 d3 e0 e1 e2 e3 g0 g1 g2 g3)
 generalize (((((((w1.drewN nd).alloc (.cells #[.int .i64 0, .int .i64 0, .int .i64 0, .string ⟨#[]⟩] 55))).setCell ⟨w1.heap.size, 0, none⟩ (.int .i64 4)).setCell ⟨w1.heap.size, 1, none⟩ (.int .i64 0)).setCell ⟨w1.heap.size, 2, none⟩ (.int .i64 0)).setCell ⟨w1.heap.size, 3, none⟩ (.string ⟨#[]⟩)) = w8 at *
 refine (deedText_c 4 0 0 ⟨#[]⟩ _ (Nat.zero_le _) HG8.out.tab HG8.out.six).mono ?_
 rintro e w9 ⟨rfl, hb9⟩
 have hR9 := HR8.out.up hb9
 have hD9 := HD8.out.up hb9
 have hB9 := bt HB8.out hb9
 clear hb9 HG8 HR8 HD8 HB8
 obtain ⟨⟨_, r0, r1, r2, r3⟩, f0, f1, f2, f3⟩ := id hR9
 obtain ⟨⟨_, d0, d1, d2, d3⟩, e0, e1, e2, e3⟩ := id hD9
 by_cases hE : dtL 4 0 0 [] = s.data.toList
 · have hT : dtX 4 0 0 ⟨#[]⟩ = s := by unfold dtX; rw [show (⟨#[]⟩ : ByteArray).data.toList = [] from bl_list [], hE, bl_of]
   have HV := Lib.hid (hr1 hE)
   rw [hT]
   clear hT hE hr1 hr2
   have hend := (((hB9.setCell (p := ⟨w.heap.size, 0, none⟩) (Nat.le_refl _) (.int .i64 4)).setCell (p := ⟨w.heap.size, 1, none⟩) (Nat.le_refl _) (.int .i64 0)).setCell (p := ⟨w.heap.size, 2, none⟩) (Nat.le_refl _) (.int .i64 0)).setCell (p := ⟨w.heap.size, 3, none⟩) (Nat.le_refl _) (.string ⟨#[]⟩)
   have HT := Lib.hid (hR9.set 4 0 0 ⟨#[]⟩)
   have HE := Lib.hid hend
   clear hend hR9 hD9 hB9
   go_wp2_with fail
   (try simp only [Exit.inBlock, Exit.then])
   refine bodyPost_ret (v := .tuple #[.agg #[.int .i64 4, .int .i64 0, .int .i64 0, .string ⟨#[]⟩], .bool true]) ?_ rfl ⟨by rw [HV.out]; rfl, HE.out⟩
   exact Eq.trans (results_four_tmp (p := 2) (r := 3) rfl _ _ w.heap.size _ _ _ _ _ rfl HT.out.1.2 Tryz.underlying55 rfl deed_size) rfl
 · have hT : ¬ dtX 4 0 0 ⟨#[]⟩ = s := fun h => hE (by rw [← h]; unfold dtX; rw [bl_list, show (⟨#[]⟩ : ByteArray).data.toList = [] from bl_list []])
   have HV := Lib.hid (hr2 hE)
   generalize dtX 4 0 0 ⟨#[]⟩ = T at *
   have qT : (T.toList == s.toList) = false := beqF (fun h => hT (by rw [← bl_of T, ← bl_of s, ← ByteArray.toList_eq, ← ByteArray.toList_eq, h]))
   have qN : (T.toList != s.toList) = true := by unfold bne; rw [qT]; rfl
   clear hT hE hr1 hr2
   have hend := (((hB9.setCell (p := ⟨w.heap.size, 0, none⟩) (Nat.le_refl _) (.int .i64 0)).setCell (p := ⟨w.heap.size, 1, none⟩) (Nat.le_refl _) (.int .i64 0)).setCell (p := ⟨w.heap.size, 2, none⟩) (Nat.le_refl _) (.int .i64 0)).setCell (p := ⟨w.heap.size, 3, none⟩) (Nat.le_refl _) (.string ⟨#[]⟩)
   have HT := Lib.hid (hR9.set 0 0 0 ⟨#[]⟩)
   have HE := Lib.hid hend
   clear hend hR9 hD9 hB9
   go_wp2_with fail
   (try simp only [Exit.inBlock, Exit.then])
   refine bodyPost_ret (v := .tuple #[.agg #[.int .i64 0, .int .i64 0, .int .i64 0, .string ⟨#[]⟩], .bool false]) ?_ rfl ⟨by rw [HV.out]; rfl, HE.out⟩
   exact Eq.trans (results_four_tmp (p := 2) (r := 3) rfl _ _ w.heap.size _ _ _ _ _ rfl HT.out.1.2 Tryz.underlying55 rfl deed_size) rfl
set_option maxRecDepth 100000 in
set_option maxHeartbeats 800000 in
theorem rdd_behind (s : ByteArray) (w : World) (hsz : s.size ≤ 2000000) (hg : Glo w) (v : List UInt8) (b : Bool) (hv : v.length ≤ 2000000) (hc : Lib.cut s.data.toList [32] = ([98, 101, 104, 105, 110, 100], v, b)) (r : Dl × Bool) (hr1 : dtL 1 0 0 v = s.data.toList → r = ((1, 0, 0, v), true)) (hr2 : ¬ dtL 1 0 0 v = s.data.toList → r = ((0, 0, 0, []), false)) :
    Calls Tryz.prog 41 #[.string s] w (RdOut r w) := by
 have hg0 := hg
 have hR1 := FourF.made w 55 0 0 0 ⟨#[]⟩
 have hb1 := below_new w (.cells #[.int .i64 0, .int .i64 0, .int .i64 0, .string ⟨#[]⟩] 55)
 have hg1 := hg.up hb1
 obtain ⟨m, hm⟩ := hg1.max
 have K1 := strings_Cut s ⟨#[32]⟩ m _ (by omega) hm
 rw [hc] at K1
 simp only [] at K1
 clear hm hc
 go_enter Tryz.func41, Tryz.ntmps41
 go_wp2_with fail
 generalize w.alloc (.cells #[.int .i64 0, .int .i64 0, .int .i64 0, .string ⟨#[]⟩] 55) = w1 at *
 refine K1.mono ?_
 rintro e w2 ⟨rfl, nd, rfl⟩
 have hz1 := hR1.1.1
 have hbA := below_new (w1.drewN nd) (.cells #[.int .i64 0, .int .i64 0, .int .i64 0, .string ⟨#[]⟩] 55)
 have hB2 := bt (bd hb1 nd) hbA
 have hR2 : FourF ((w1.drewN nd).alloc (.cells #[.int .i64 0, .int .i64 0, .int .i64 0, .string ⟨#[]⟩] 55)) w.heap.size 0 0 0 ⟨#[]⟩ := FourF.up (w := w1.drewN nd) hR1 hbA
 have hD2 : FourF ((w1.drewN nd).alloc (.cells #[.int .i64 0, .int .i64 0, .int .i64 0, .string ⟨#[]⟩] 55)) w1.heap.size 0 0 0 ⟨#[]⟩ := FourF.made (w1.drewN nd) 55 0 0 0 ⟨#[]⟩
 have hg2 : Glo ((w1.drewN nd).alloc (.cells #[.int .i64 0, .int .i64 0, .int .i64 0, .string ⟨#[]⟩] 55)) := hg.up hB2
 clear K1 hR1 hb1 hg1 hbA hg
 obtain ⟨⟨_, r0, r1, r2, r3⟩, f0, f1, f2, f3⟩ := id hR2
 obtain ⟨⟨_, d0, d1, d2, d3⟩, e0, e1, e2, e3⟩ := id hD2
 go_wp2_with fail
 refine (strClone_c ⟨v.toArray⟩ _ (by rw [show (⟨v.toArray⟩ : ByteArray).size = v.length from bl_size v]; omega)).mono ?_
 rintro e w4 ⟨rfl, hb4⟩
 have hR4 := hR2.up hb4
 have hD4 := hD2.up hb4
 have hB4 := bt hB2 hb4
 clear hb4 hR2 hD2 hB2 hg2
 have hch : Chg w1.heap.size (w1.heap.size + 1) (w4) (((((w4).setCell ⟨w1.heap.size, 0, none⟩ (.int .i64 1)).setCell ⟨w1.heap.size, 1, none⟩ (.int .i64 0)).setCell ⟨w1.heap.size, 2, none⟩ (.int .i64 0)).setCell ⟨w1.heap.size, 3, none⟩ (.string ⟨v.toArray⟩)) :=
  ((((((Chg.refl _ _ _).setCell (p := ⟨w1.heap.size, 0, none⟩) (Nat.le_refl _) (Nat.lt_succ_self _) _).setCell (p := ⟨w1.heap.size, 1, none⟩) (Nat.le_refl _) (Nat.lt_succ_self _) _).setCell (p := ⟨w1.heap.size, 2, none⟩) (Nat.le_refl _) (Nat.lt_succ_self _) _).setCell (p := ⟨w1.heap.size, 3, none⟩) (Nat.le_refl _) (Nat.lt_succ_self _) _))
 have hD8 : FourF (((((w4).setCell ⟨w1.heap.size, 0, none⟩ (.int .i64 1)).setCell ⟨w1.heap.size, 1, none⟩ (.int .i64 0)).setCell ⟨w1.heap.size, 2, none⟩ (.int .i64 0)).setCell ⟨w1.heap.size, 3, none⟩ (.string ⟨v.toArray⟩)) w1.heap.size 1 0 0 ⟨v.toArray⟩ := (hD4.set 1 0 0 ⟨v.toArray⟩)
 have hR8 := hR4.chg hch (.inl (by omega))
 have hB8 : Below w.heap.size w (((((w4).setCell ⟨w1.heap.size, 0, none⟩ (.int .i64 1)).setCell ⟨w1.heap.size, 1, none⟩ (.int .i64 0)).setCell ⟨w1.heap.size, 2, none⟩ (.int .i64 0)).setCell ⟨w1.heap.size, 3, none⟩ (.string ⟨v.toArray⟩)) := hB4.trans (hch.belowLo (B := w.heap.size) (by omega) hB4.size)
 have hg8 := hg0.up hB8
 have HG8 := Lib.hid hg8
 have HR8 := Lib.hid hR8
 have HD8 := Lib.hid hD8
 have HB8 := Lib.hid hB8
 (try clear d0 d1 d2 d3 e0 e1 e2 e3 r0 r1 r2 r3 f0 f1 f2 f3)
 obtain ⟨⟨_, d0, d1, d2, d3⟩, e0, e1, e2, e3⟩ := id hD4
 obtain ⟨⟨_, g0, g1, g2, g3⟩, _, _, _, _⟩ := id hD8
 clear hch hR8 hD8 hB8 hg8 hR4 hD4 hB4
 go_wp2_with fail
 (try clear d0 d1 d2 d3 e0 e1 e2 e3 g0 g1 g2 g3)
 generalize (((((w4).setCell ⟨w1.heap.size, 0, none⟩ (.int .i64 1)).setCell ⟨w1.heap.size, 1, none⟩ (.int .i64 0)).setCell ⟨w1.heap.size, 2, none⟩ (.int .i64 0)).setCell ⟨w1.heap.size, 3, none⟩ (.string ⟨v.toArray⟩)) = w8 at *
 refine (deedText_c 1 0 0 ⟨v.toArray⟩ _ (by rw [show (⟨v.toArray⟩ : ByteArray).size = v.length from bl_size v]; omega) HG8.out.tab HG8.out.six).mono ?_
 rintro e w9 ⟨rfl, hb9⟩
 have hR9 := HR8.out.up hb9
 have hD9 := HD8.out.up hb9
 have hB9 := bt HB8.out hb9
 clear hb9 HG8 HR8 HD8 HB8
 obtain ⟨⟨_, r0, r1, r2, r3⟩, f0, f1, f2, f3⟩ := id hR9
 obtain ⟨⟨_, d0, d1, d2, d3⟩, e0, e1, e2, e3⟩ := id hD9
 by_cases hE : dtL 1 0 0 v = s.data.toList
 · have hT : dtX 1 0 0 ⟨v.toArray⟩ = s := by unfold dtX; rw [show (⟨v.toArray⟩ : ByteArray).data.toList = v from bl_list v, hE, bl_of]
   have HV := Lib.hid (hr1 hE)
   rw [hT]
   clear hT hE hr1 hr2
   have hend := (((hB9.setCell (p := ⟨w.heap.size, 0, none⟩) (Nat.le_refl _) (.int .i64 1)).setCell (p := ⟨w.heap.size, 1, none⟩) (Nat.le_refl _) (.int .i64 0)).setCell (p := ⟨w.heap.size, 2, none⟩) (Nat.le_refl _) (.int .i64 0)).setCell (p := ⟨w.heap.size, 3, none⟩) (Nat.le_refl _) (.string ⟨v.toArray⟩)
   have HT := Lib.hid (hR9.set 1 0 0 ⟨v.toArray⟩)
   have HE := Lib.hid hend
   clear hend hR9 hD9 hB9
   go_wp2_with fail
   (try simp only [Exit.inBlock, Exit.then])
   refine bodyPost_ret (v := .tuple #[.agg #[.int .i64 1, .int .i64 0, .int .i64 0, .string ⟨v.toArray⟩], .bool true]) ?_ rfl ⟨by rw [HV.out]; rfl, HE.out⟩
   exact Eq.trans (results_four_tmp (p := 2) (r := 3) rfl _ _ w.heap.size _ _ _ _ _ rfl HT.out.1.2 Tryz.underlying55 rfl deed_size) rfl
 · have hT : ¬ dtX 1 0 0 ⟨v.toArray⟩ = s := fun h => hE (by rw [← h]; unfold dtX; rw [bl_list, show (⟨v.toArray⟩ : ByteArray).data.toList = v from bl_list v])
   have HV := Lib.hid (hr2 hE)
   generalize dtX 1 0 0 ⟨v.toArray⟩ = T at *
   have qT : (T.toList == s.toList) = false := beqF (fun h => hT (by rw [← bl_of T, ← bl_of s, ← ByteArray.toList_eq, ← ByteArray.toList_eq, h]))
   have qN : (T.toList != s.toList) = true := by unfold bne; rw [qT]; rfl
   clear hT hE hr1 hr2
   have hend := (((hB9.setCell (p := ⟨w.heap.size, 0, none⟩) (Nat.le_refl _) (.int .i64 0)).setCell (p := ⟨w.heap.size, 1, none⟩) (Nat.le_refl _) (.int .i64 0)).setCell (p := ⟨w.heap.size, 2, none⟩) (Nat.le_refl _) (.int .i64 0)).setCell (p := ⟨w.heap.size, 3, none⟩) (Nat.le_refl _) (.string ⟨#[]⟩)
   have HT := Lib.hid (hR9.set 0 0 0 ⟨#[]⟩)
   have HE := Lib.hid hend
   clear hend hR9 hD9 hB9
   go_wp2_with fail
   (try simp only [Exit.inBlock, Exit.then])
   refine bodyPost_ret (v := .tuple #[.agg #[.int .i64 0, .int .i64 0, .int .i64 0, .string ⟨#[]⟩], .bool false]) ?_ rfl ⟨by rw [HV.out]; rfl, HE.out⟩
   exact Eq.trans (results_four_tmp (p := 2) (r := 3) rfl _ _ w.heap.size _ _ _ _ _ rfl HT.out.1.2 Tryz.underlying55 rfl deed_size) rfl
set_option maxRecDepth 100000 in
set_option maxHeartbeats 800000 in
theorem rdd_name (s : ByteArray) (w : World) (hsz : s.size ≤ 2000000) (hg : Glo w) (v : List UInt8) (b : Bool) (hv : v.length ≤ 2000000) (hc : Lib.cut s.data.toList [32] = ([110, 97, 109, 101], v, b)) (r : Dl × Bool) (hr1 : dtL 3 0 0 v = s.data.toList → r = ((3, 0, 0, v), true)) (hr2 : ¬ dtL 3 0 0 v = s.data.toList → r = ((0, 0, 0, []), false)) :
    Calls Tryz.prog 41 #[.string s] w (RdOut r w) := by
 have hg0 := hg
 have hR1 := FourF.made w 55 0 0 0 ⟨#[]⟩
 have hb1 := below_new w (.cells #[.int .i64 0, .int .i64 0, .int .i64 0, .string ⟨#[]⟩] 55)
 have hg1 := hg.up hb1
 obtain ⟨m, hm⟩ := hg1.max
 have K1 := strings_Cut s ⟨#[32]⟩ m _ (by omega) hm
 rw [hc] at K1
 simp only [] at K1
 clear hm hc
 go_enter Tryz.func41, Tryz.ntmps41
 go_wp2_with fail
 generalize w.alloc (.cells #[.int .i64 0, .int .i64 0, .int .i64 0, .string ⟨#[]⟩] 55) = w1 at *
 refine K1.mono ?_
 rintro e w2 ⟨rfl, nd, rfl⟩
 have hz1 := hR1.1.1
 have hbA := below_new (w1.drewN nd) (.cells #[.int .i64 0, .int .i64 0, .int .i64 0, .string ⟨#[]⟩] 55)
 have hB2 := bt (bd hb1 nd) hbA
 have hR2 : FourF ((w1.drewN nd).alloc (.cells #[.int .i64 0, .int .i64 0, .int .i64 0, .string ⟨#[]⟩] 55)) w.heap.size 0 0 0 ⟨#[]⟩ := FourF.up (w := w1.drewN nd) hR1 hbA
 have hD2 : FourF ((w1.drewN nd).alloc (.cells #[.int .i64 0, .int .i64 0, .int .i64 0, .string ⟨#[]⟩] 55)) w1.heap.size 0 0 0 ⟨#[]⟩ := FourF.made (w1.drewN nd) 55 0 0 0 ⟨#[]⟩
 have hg2 : Glo ((w1.drewN nd).alloc (.cells #[.int .i64 0, .int .i64 0, .int .i64 0, .string ⟨#[]⟩] 55)) := hg.up hB2
 clear K1 hR1 hb1 hg1 hbA hg
 obtain ⟨⟨_, r0, r1, r2, r3⟩, f0, f1, f2, f3⟩ := id hR2
 obtain ⟨⟨_, d0, d1, d2, d3⟩, e0, e1, e2, e3⟩ := id hD2
 go_wp2_with fail
 refine (strClone_c ⟨v.toArray⟩ _ (by rw [show (⟨v.toArray⟩ : ByteArray).size = v.length from bl_size v]; omega)).mono ?_
 rintro e w4 ⟨rfl, hb4⟩
 have hR4 := hR2.up hb4
 have hD4 := hD2.up hb4
 have hB4 := bt hB2 hb4
 clear hb4 hR2 hD2 hB2 hg2
 have hch : Chg w1.heap.size (w1.heap.size + 1) (w4) (((((w4).setCell ⟨w1.heap.size, 0, none⟩ (.int .i64 3)).setCell ⟨w1.heap.size, 1, none⟩ (.int .i64 0)).setCell ⟨w1.heap.size, 2, none⟩ (.int .i64 0)).setCell ⟨w1.heap.size, 3, none⟩ (.string ⟨v.toArray⟩)) :=
  ((((((Chg.refl _ _ _).setCell (p := ⟨w1.heap.size, 0, none⟩) (Nat.le_refl _) (Nat.lt_succ_self _) _).setCell (p := ⟨w1.heap.size, 1, none⟩) (Nat.le_refl _) (Nat.lt_succ_self _) _).setCell (p := ⟨w1.heap.size, 2, none⟩) (Nat.le_refl _) (Nat.lt_succ_self _) _).setCell (p := ⟨w1.heap.size, 3, none⟩) (Nat.le_refl _) (Nat.lt_succ_self _) _))
 have hD8 : FourF (((((w4).setCell ⟨w1.heap.size, 0, none⟩ (.int .i64 3)).setCell ⟨w1.heap.size, 1, none⟩ (.int .i64 0)).setCell ⟨w1.heap.size, 2, none⟩ (.int .i64 0)).setCell ⟨w1.heap.size, 3, none⟩ (.string ⟨v.toArray⟩)) w1.heap.size 3 0 0 ⟨v.toArray⟩ := (hD4.set 3 0 0 ⟨v.toArray⟩)
 have hR8 := hR4.chg hch (.inl (by omega))
 have hB8 : Below w.heap.size w (((((w4).setCell ⟨w1.heap.size, 0, none⟩ (.int .i64 3)).setCell ⟨w1.heap.size, 1, none⟩ (.int .i64 0)).setCell ⟨w1.heap.size, 2, none⟩ (.int .i64 0)).setCell ⟨w1.heap.size, 3, none⟩ (.string ⟨v.toArray⟩)) := hB4.trans (hch.belowLo (B := w.heap.size) (by omega) hB4.size)
 have hg8 := hg0.up hB8
 have HG8 := Lib.hid hg8
 have HR8 := Lib.hid hR8
 have HD8 := Lib.hid hD8
 have HB8 := Lib.hid hB8
 (try clear d0 d1 d2 d3 e0 e1 e2 e3 r0 r1 r2 r3 f0 f1 f2 f3)
 obtain ⟨⟨_, d0, d1, d2, d3⟩, e0, e1, e2, e3⟩ := id hD4
 obtain ⟨⟨_, g0, g1, g2, g3⟩, _, _, _, _⟩ := id hD8
 clear hch hR8 hD8 hB8 hg8 hR4 hD4 hB4
 go_wp2_with fail
 (try clear d0 d1 d2 d3 e0 e1 e2 e3 g0 g1 g2 g3)
 generalize (((((w4).setCell ⟨w1.heap.size, 0, none⟩ (.int .i64 3)).setCell ⟨w1.heap.size, 1, none⟩ (.int .i64 0)).setCell ⟨w1.heap.size, 2, none⟩ (.int .i64 0)).setCell ⟨w1.heap.size, 3, none⟩ (.string ⟨v.toArray⟩)) = w8 at *
 refine (deedText_c 3 0 0 ⟨v.toArray⟩ _ (by rw [show (⟨v.toArray⟩ : ByteArray).size = v.length from bl_size v]; omega) HG8.out.tab HG8.out.six).mono ?_
 rintro e w9 ⟨rfl, hb9⟩
 have hR9 := HR8.out.up hb9
 have hD9 := HD8.out.up hb9
 have hB9 := bt HB8.out hb9
 clear hb9 HG8 HR8 HD8 HB8
 obtain ⟨⟨_, r0, r1, r2, r3⟩, f0, f1, f2, f3⟩ := id hR9
 obtain ⟨⟨_, d0, d1, d2, d3⟩, e0, e1, e2, e3⟩ := id hD9
 by_cases hE : dtL 3 0 0 v = s.data.toList
 · have hT : dtX 3 0 0 ⟨v.toArray⟩ = s := by unfold dtX; rw [show (⟨v.toArray⟩ : ByteArray).data.toList = v from bl_list v, hE, bl_of]
   have HV := Lib.hid (hr1 hE)
   rw [hT]
   clear hT hE hr1 hr2
   have hend := (((hB9.setCell (p := ⟨w.heap.size, 0, none⟩) (Nat.le_refl _) (.int .i64 3)).setCell (p := ⟨w.heap.size, 1, none⟩) (Nat.le_refl _) (.int .i64 0)).setCell (p := ⟨w.heap.size, 2, none⟩) (Nat.le_refl _) (.int .i64 0)).setCell (p := ⟨w.heap.size, 3, none⟩) (Nat.le_refl _) (.string ⟨v.toArray⟩)
   have HT := Lib.hid (hR9.set 3 0 0 ⟨v.toArray⟩)
   have HE := Lib.hid hend
   clear hend hR9 hD9 hB9
   go_wp2_with fail
   (try simp only [Exit.inBlock, Exit.then])
   refine bodyPost_ret (v := .tuple #[.agg #[.int .i64 3, .int .i64 0, .int .i64 0, .string ⟨v.toArray⟩], .bool true]) ?_ rfl ⟨by rw [HV.out]; rfl, HE.out⟩
   exact Eq.trans (results_four_tmp (p := 2) (r := 3) rfl _ _ w.heap.size _ _ _ _ _ rfl HT.out.1.2 Tryz.underlying55 rfl deed_size) rfl
 · have hT : ¬ dtX 3 0 0 ⟨v.toArray⟩ = s := fun h => hE (by rw [← h]; unfold dtX; rw [bl_list, show (⟨v.toArray⟩ : ByteArray).data.toList = v from bl_list v])
   have HV := Lib.hid (hr2 hE)
   generalize dtX 3 0 0 ⟨v.toArray⟩ = T at *
   have qT : (T.toList == s.toList) = false := beqF (fun h => hT (by rw [← bl_of T, ← bl_of s, ← ByteArray.toList_eq, ← ByteArray.toList_eq, h]))
   have qN : (T.toList != s.toList) = true := by unfold bne; rw [qT]; rfl
   clear hT hE hr1 hr2
   have hend := (((hB9.setCell (p := ⟨w.heap.size, 0, none⟩) (Nat.le_refl _) (.int .i64 0)).setCell (p := ⟨w.heap.size, 1, none⟩) (Nat.le_refl _) (.int .i64 0)).setCell (p := ⟨w.heap.size, 2, none⟩) (Nat.le_refl _) (.int .i64 0)).setCell (p := ⟨w.heap.size, 3, none⟩) (Nat.le_refl _) (.string ⟨#[]⟩)
   have HT := Lib.hid (hR9.set 0 0 0 ⟨#[]⟩)
   have HE := Lib.hid hend
   clear hend hR9 hD9 hB9
   go_wp2_with fail
   (try simp only [Exit.inBlock, Exit.then])
   refine bodyPost_ret (v := .tuple #[.agg #[.int .i64 0, .int .i64 0, .int .i64 0, .string ⟨#[]⟩], .bool false]) ?_ rfl ⟨by rw [HV.out]; rfl, HE.out⟩
   exact Eq.trans (results_four_tmp (p := 2) (r := 3) rfl _ _ w.heap.size _ _ _ _ _ rfl HT.out.1.2 Tryz.underlying55 rfl deed_size) rfl
set_option maxRecDepth 100000 in
set_option maxHeartbeats 800000 in
theorem rdd_power (s : ByteArray) (w : World) (hsz : s.size ≤ 2000000) (hg : Glo w) (v : List UInt8) (b : Bool) (n : Int) (hv : v.length ≤ 2000000) (hn : Lib.atoiAll v = .ok n) (hc : Lib.cut s.data.toList [32] = ([112, 111, 119, 101, 114], v, b)) (r : Dl × Bool) (hr1 : dtL 2 n 0 [] = s.data.toList → r = ((2, n, 0, []), true)) (hr2 : ¬ dtL 2 n 0 [] = s.data.toList → r = ((0, 0, 0, []), false)) :
    Calls Tryz.prog 41 #[.string s] w (RdOut r w) := by
 have hg0 := hg
 have hR1 := FourF.made w 55 0 0 0 ⟨#[]⟩
 have hb1 := below_new w (.cells #[.int .i64 0, .int .i64 0, .int .i64 0, .string ⟨#[]⟩] 55)
 have hg1 := hg.up hb1
 obtain ⟨m, hm⟩ := hg1.max
 have K1 := strings_Cut s ⟨#[32]⟩ m _ (by omega) hm
 rw [hc] at K1
 simp only [] at K1
 clear hm hc
 go_enter Tryz.func41, Tryz.ntmps41
 go_wp2_with fail
 generalize w.alloc (.cells #[.int .i64 0, .int .i64 0, .int .i64 0, .string ⟨#[]⟩] 55) = w1 at *
 refine K1.mono ?_
 rintro e w2 ⟨rfl, nd, rfl⟩
 have hz1 := hR1.1.1
 have hbA := below_new (w1.drewN nd) (.cells #[.int .i64 0, .int .i64 0, .int .i64 0, .string ⟨#[]⟩] 55)
 have hB2 := bt (bd hb1 nd) hbA
 have hR2 : FourF ((w1.drewN nd).alloc (.cells #[.int .i64 0, .int .i64 0, .int .i64 0, .string ⟨#[]⟩] 55)) w.heap.size 0 0 0 ⟨#[]⟩ := FourF.up (w := w1.drewN nd) hR1 hbA
 have hD2 : FourF ((w1.drewN nd).alloc (.cells #[.int .i64 0, .int .i64 0, .int .i64 0, .string ⟨#[]⟩] 55)) w1.heap.size 0 0 0 ⟨#[]⟩ := FourF.made (w1.drewN nd) 55 0 0 0 ⟨#[]⟩
 have hg2 : Glo ((w1.drewN nd).alloc (.cells #[.int .i64 0, .int .i64 0, .int .i64 0, .string ⟨#[]⟩] 55)) := hg.up hB2
 clear K1 hR1 hb1 hg1 hbA hg
 obtain ⟨⟨_, r0, r1, r2, r3⟩, f0, f1, f2, f3⟩ := id hR2
 obtain ⟨⟨_, d0, d1, d2, d3⟩, e0, e1, e2, e3⟩ := id hD2
 go_wp2_with fail
 refine (strconv_Atoi_ok ⟨v.toArray⟩ (by rw [show (⟨v.toArray⟩ : ByteArray).size = v.length from bl_size v]; omega) n (by rw [show (⟨v.toArray⟩ : ByteArray).data.toList = v from bl_list v]; exact hn) _).mono ?_
 rintro e w4 ⟨rfl, hw4⟩
 have hb4 : Below ((w1.drewN nd).alloc (.cells #[.int .i64 0, .int .i64 0, .int .i64 0, .string ⟨#[]⟩] 55)).heap.size ((w1.drewN nd).alloc (.cells #[.int .i64 0, .int .i64 0, .int .i64 0, .string ⟨#[]⟩] 55)) w4 := by
  rcases hw4 with rfl | ⟨t, rfl⟩
  · exact Below.refl _ _
  · exact Lib.bytesWorld_below _ _ _
 have hR4 := hR2.up hb4
 have hD4 := hD2.up hb4
 have hB4 := bt hB2 hb4
 clear hb4 hR2 hD2 hB2 hg2 hw4 hn
 have hch : Chg w1.heap.size (w1.heap.size + 1) (w4) (((((w4).setCell ⟨w1.heap.size, 0, none⟩ (.int .i64 2)).setCell ⟨w1.heap.size, 1, none⟩ (.int .i64 n)).setCell ⟨w1.heap.size, 2, none⟩ (.int .i64 0)).setCell ⟨w1.heap.size, 3, none⟩ (.string ⟨#[]⟩)) :=
  ((((((Chg.refl _ _ _).setCell (p := ⟨w1.heap.size, 0, none⟩) (Nat.le_refl _) (Nat.lt_succ_self _) _).setCell (p := ⟨w1.heap.size, 1, none⟩) (Nat.le_refl _) (Nat.lt_succ_self _) _).setCell (p := ⟨w1.heap.size, 2, none⟩) (Nat.le_refl _) (Nat.lt_succ_self _) _).setCell (p := ⟨w1.heap.size, 3, none⟩) (Nat.le_refl _) (Nat.lt_succ_self _) _))
 have hD8 : FourF (((((w4).setCell ⟨w1.heap.size, 0, none⟩ (.int .i64 2)).setCell ⟨w1.heap.size, 1, none⟩ (.int .i64 n)).setCell ⟨w1.heap.size, 2, none⟩ (.int .i64 0)).setCell ⟨w1.heap.size, 3, none⟩ (.string ⟨#[]⟩)) w1.heap.size 2 n 0 ⟨#[]⟩ := (hD4.set 2 n 0 ⟨#[]⟩)
 have hR8 := hR4.chg hch (.inl (by omega))
 have hB8 : Below w.heap.size w (((((w4).setCell ⟨w1.heap.size, 0, none⟩ (.int .i64 2)).setCell ⟨w1.heap.size, 1, none⟩ (.int .i64 n)).setCell ⟨w1.heap.size, 2, none⟩ (.int .i64 0)).setCell ⟨w1.heap.size, 3, none⟩ (.string ⟨#[]⟩)) := hB4.trans (hch.belowLo (B := w.heap.size) (by omega) hB4.size)
 have hg8 := hg0.up hB8
 have HG8 := Lib.hid hg8
 have HR8 := Lib.hid hR8
 have HD8 := Lib.hid hD8
 have HB8 := Lib.hid hB8
 (try clear d0 d1 d2 d3 e0 e1 e2 e3 r0 r1 r2 r3 f0 f1 f2 f3)
 obtain ⟨⟨_, d0, d1, d2, d3⟩, e0, e1, e2, e3⟩ := id hD4
 obtain ⟨⟨_, g0, g1, g2, g3⟩, _, _, _, _⟩ := id hD8
 clear hch hR8 hD8 hB8 hg8 hR4 hD4 hB4
 go_wp2_with fail
 (try clear d0 d1 d2 d3 e0 e1 e2 e3 g0 g1 g2 g3)
 generalize (((((w4).setCell ⟨w1.heap.size, 0, none⟩ (.int .i64 2)).setCell ⟨w1.heap.size, 1, none⟩ (.int .i64 n)).setCell ⟨w1.heap.size, 2, none⟩ (.int .i64 0)).setCell ⟨w1.heap.size, 3, none⟩ (.string ⟨#[]⟩)) = w8 at *
 refine (deedText_c 2 n 0 ⟨#[]⟩ _ (Nat.zero_le _) HG8.out.tab HG8.out.six).mono ?_
 rintro e w9 ⟨rfl, hb9⟩
 have hR9 := HR8.out.up hb9
 have hD9 := HD8.out.up hb9
 have hB9 := bt HB8.out hb9
 clear hb9 HG8 HR8 HD8 HB8
 obtain ⟨⟨_, r0, r1, r2, r3⟩, f0, f1, f2, f3⟩ := id hR9
 obtain ⟨⟨_, d0, d1, d2, d3⟩, e0, e1, e2, e3⟩ := id hD9
 by_cases hE : dtL 2 n 0 [] = s.data.toList
 · have hT : dtX 2 n 0 ⟨#[]⟩ = s := by unfold dtX; rw [show (⟨#[]⟩ : ByteArray).data.toList = [] from bl_list [], hE, bl_of]
   have HV := Lib.hid (hr1 hE)
   rw [hT]
   clear hT hE hr1 hr2
   have hend := (((hB9.setCell (p := ⟨w.heap.size, 0, none⟩) (Nat.le_refl _) (.int .i64 2)).setCell (p := ⟨w.heap.size, 1, none⟩) (Nat.le_refl _) (.int .i64 n)).setCell (p := ⟨w.heap.size, 2, none⟩) (Nat.le_refl _) (.int .i64 0)).setCell (p := ⟨w.heap.size, 3, none⟩) (Nat.le_refl _) (.string ⟨#[]⟩)
   have HT := Lib.hid (hR9.set 2 n 0 ⟨#[]⟩)
   have HE := Lib.hid hend
   clear hend hR9 hD9 hB9
   go_wp2_with fail
   (try simp only [Exit.inBlock, Exit.then])
   refine bodyPost_ret (v := .tuple #[.agg #[.int .i64 2, .int .i64 n, .int .i64 0, .string ⟨#[]⟩], .bool true]) ?_ rfl ⟨by rw [HV.out]; rfl, HE.out⟩
   exact Eq.trans (results_four_tmp (p := 2) (r := 3) rfl _ _ w.heap.size _ _ _ _ _ rfl HT.out.1.2 Tryz.underlying55 rfl deed_size) rfl
 · have hT : ¬ dtX 2 n 0 ⟨#[]⟩ = s := fun h => hE (by rw [← h]; unfold dtX; rw [bl_list, show (⟨#[]⟩ : ByteArray).data.toList = [] from bl_list []])
   have HV := Lib.hid (hr2 hE)
   generalize dtX 2 n 0 ⟨#[]⟩ = T at *
   have qT : (T.toList == s.toList) = false := beqF (fun h => hT (by rw [← bl_of T, ← bl_of s, ← ByteArray.toList_eq, ← ByteArray.toList_eq, h]))
   have qN : (T.toList != s.toList) = true := by unfold bne; rw [qT]; rfl
   clear hT hE hr1 hr2
   have hend := (((hB9.setCell (p := ⟨w.heap.size, 0, none⟩) (Nat.le_refl _) (.int .i64 0)).setCell (p := ⟨w.heap.size, 1, none⟩) (Nat.le_refl _) (.int .i64 0)).setCell (p := ⟨w.heap.size, 2, none⟩) (Nat.le_refl _) (.int .i64 0)).setCell (p := ⟨w.heap.size, 3, none⟩) (Nat.le_refl _) (.string ⟨#[]⟩)
   have HT := Lib.hid (hR9.set 0 0 0 ⟨#[]⟩)
   have HE := Lib.hid hend
   clear hend hR9 hD9 hB9
   go_wp2_with fail
   (try simp only [Exit.inBlock, Exit.then])
   refine bodyPost_ret (v := .tuple #[.agg #[.int .i64 0, .int .i64 0, .int .i64 0, .string ⟨#[]⟩], .bool false]) ?_ rfl ⟨by rw [HV.out]; rfl, HE.out⟩
   exact Eq.trans (results_four_tmp (p := 2) (r := 3) rfl _ _ w.heap.size _ _ _ _ _ rfl HT.out.1.2 Tryz.underlying55 rfl deed_size) rfl
set_option maxRecDepth 100000 in
set_option maxHeartbeats 800000 in
theorem rdd_powerN (s : ByteArray) (w : World) (hsz : s.size ≤ 2000000) (hg : Glo w) (v : List UInt8) (b : Bool) (hv : v.length ≤ 2000000) (hn : ∀ n, Lib.atoiAll v ≠ .ok n) (hc : Lib.cut s.data.toList [32] = ([112, 111, 119, 101, 114], v, b)) :
    Calls Tryz.prog 41 #[.string s] w (RdOut ((0, 0, 0, []), false) w) := by
 have hR1 := FourF.made w 55 0 0 0 ⟨#[]⟩
 have hb1 := below_new w (.cells #[.int .i64 0, .int .i64 0, .int .i64 0, .string ⟨#[]⟩] 55)
 have hg1 := hg.up hb1
 obtain ⟨m, hm⟩ := hg1.max
 have K1 := strings_Cut s ⟨#[32]⟩ m _ (by omega) hm
 rw [hc] at K1
 simp only [] at K1
 clear hm hc
 go_enter Tryz.func41, Tryz.ntmps41
 go_wp2_with fail
 generalize w.alloc (.cells #[.int .i64 0, .int .i64 0, .int .i64 0, .string ⟨#[]⟩] 55) = w1 at *
 refine K1.mono ?_
 rintro e w2 ⟨rfl, nd, rfl⟩
 have hz1 := hR1.1.1
 have hbA := below_new (w1.drewN nd) (.cells #[.int .i64 0, .int .i64 0, .int .i64 0, .string ⟨#[]⟩] 55)
 have hB2 := bt (bd hb1 nd) hbA
 have hR2 : FourF ((w1.drewN nd).alloc (.cells #[.int .i64 0, .int .i64 0, .int .i64 0, .string ⟨#[]⟩] 55)) w.heap.size 0 0 0 ⟨#[]⟩ := FourF.up (w := w1.drewN nd) hR1 hbA
 have hD2 : FourF ((w1.drewN nd).alloc (.cells #[.int .i64 0, .int .i64 0, .int .i64 0, .string ⟨#[]⟩] 55)) w1.heap.size 0 0 0 ⟨#[]⟩ := FourF.made (w1.drewN nd) 55 0 0 0 ⟨#[]⟩
 have hg2 : Glo ((w1.drewN nd).alloc (.cells #[.int .i64 0, .int .i64 0, .int .i64 0, .string ⟨#[]⟩] 55)) := hg.up hB2
 clear K1 hR1 hb1 hg1 hbA hg
 obtain ⟨⟨_, r0, r1, r2, r3⟩, f0, f1, f2, f3⟩ := id hR2
 obtain ⟨⟨_, d0, d1, d2, d3⟩, e0, e1, e2, e3⟩ := id hD2
 go_wp2_with fail
 refine (strconv_Atoi_bad ⟨v.toArray⟩ (by rw [show (⟨v.toArray⟩ : ByteArray).size = v.length from bl_size v]; omega) (by rw [show (⟨v.toArray⟩ : ByteArray).data.toList = v from bl_list v]; exact hn) _ hg2.syn hg2.rng).mono ?_
 rintro e w4 ⟨nn, N, rfl, hb4⟩
 have hR4 := hR2.up hb4
 have hB4 := bt hB2 hb4
 clear hb4 hR2 hD2 hB2 hg2 hn r0 r1 r2 r3 f0 f1 f2 f3 d0 d1 d2 d3 e0 e1 e2 e3
 obtain ⟨⟨_, r0, r1, r2, r3⟩, f0, f1, f2, f3⟩ := id hR4
 have hend := (((hB4.setCell (p := ⟨w.heap.size, 0, none⟩) (Nat.le_refl _) (.int .i64 0)).setCell (p := ⟨w.heap.size, 1, none⟩) (Nat.le_refl _) (.int .i64 0)).setCell (p := ⟨w.heap.size, 2, none⟩) (Nat.le_refl _) (.int .i64 0)).setCell (p := ⟨w.heap.size, 3, none⟩) (Nat.le_refl _) (.string ⟨#[]⟩)
 have HT := Lib.hid (hR4.set 0 0 0 ⟨#[]⟩)
 have HE := Lib.hid hend
 clear hend hR4 hB4
 go_wp2_with fail
 (try simp only [Exit.inBlock, Exit.then])
 refine bodyPost_ret (v := .tuple #[.agg #[.int .i64 0, .int .i64 0, .int .i64 0, .string ⟨#[]⟩], .bool false]) ?_ rfl ⟨rfl, HE.out⟩
 exact Eq.trans (results_four_tmp (p := 2) (r := 3) rfl _ _ w.heap.size _ _ _ _ _ rfl HT.out.1.2 Tryz.underlying55 rfl deed_size) rfl
set_option maxRecDepth 100000 in
set_option maxHeartbeats 800000 in
theorem rdd_leadN (s : ByteArray) (w : World) (hsz : s.size ≤ 2000000) (hg : Glo w) (v : List UInt8) (b : Bool) (hv : v.length ≤ 2000000) (h3 : v.length ≠ 3) (hc : Lib.cut s.data.toList [32] = ([108, 101, 97, 100], v, b)) :
    Calls Tryz.prog 41 #[.string s] w (RdOut ((0, 0, 0, []), false) w) := by
 have q3 : ((v.length : Int) == 3) = false := by rw [beq_eq_false_iff_ne]; omega
 have q4 : ((v.length : Int) != 3) = true := by unfold bne; rw [q3]; rfl
 have hR1 := FourF.made w 55 0 0 0 ⟨#[]⟩
 have hb1 := below_new w (.cells #[.int .i64 0, .int .i64 0, .int .i64 0, .string ⟨#[]⟩] 55)
 have hg1 := hg.up hb1
 obtain ⟨m, hm⟩ := hg1.max
 have K1 := strings_Cut s ⟨#[32]⟩ m _ (by omega) hm
 rw [hc] at K1
 simp only [] at K1
 clear hm hc
 go_enter Tryz.func41, Tryz.ntmps41
 go_wp2_with fail
 generalize w.alloc (.cells #[.int .i64 0, .int .i64 0, .int .i64 0, .string ⟨#[]⟩] 55) = w1 at *
 refine K1.mono ?_
 rintro e w2 ⟨rfl, nd, rfl⟩
 have hz1 := hR1.1.1
 have hbA := below_new (w1.drewN nd) (.cells #[.int .i64 0, .int .i64 0, .int .i64 0, .string ⟨#[]⟩] 55)
 have hB2 := bt (bd hb1 nd) hbA
 have hR2 : FourF ((w1.drewN nd).alloc (.cells #[.int .i64 0, .int .i64 0, .int .i64 0, .string ⟨#[]⟩] 55)) w.heap.size 0 0 0 ⟨#[]⟩ := FourF.up (w := w1.drewN nd) hR1 hbA
 have hD2 : FourF ((w1.drewN nd).alloc (.cells #[.int .i64 0, .int .i64 0, .int .i64 0, .string ⟨#[]⟩] 55)) w1.heap.size 0 0 0 ⟨#[]⟩ := FourF.made (w1.drewN nd) 55 0 0 0 ⟨#[]⟩
 have hg2 : Glo ((w1.drewN nd).alloc (.cells #[.int .i64 0, .int .i64 0, .int .i64 0, .string ⟨#[]⟩] 55)) := hg.up hB2
 clear K1 hR1 hb1 hg1 hbA hg
 obtain ⟨⟨_, r0, r1, r2, r3⟩, f0, f1, f2, f3⟩ := id hR2
 obtain ⟨⟨_, d0, d1, d2, d3⟩, e0, e1, e2, e3⟩ := id hD2
 have hend := (((hB2.setCell (p := ⟨w.heap.size, 0, none⟩) (Nat.le_refl _) (.int .i64 0)).setCell (p := ⟨w.heap.size, 1, none⟩) (Nat.le_refl _) (.int .i64 0)).setCell (p := ⟨w.heap.size, 2, none⟩) (Nat.le_refl _) (.int .i64 0)).setCell (p := ⟨w.heap.size, 3, none⟩) (Nat.le_refl _) (.string ⟨#[]⟩)
 have HT := Lib.hid (hR2.set 0 0 0 ⟨#[]⟩)
 have HE := Lib.hid hend
 clear hend hR2 hD2 hg2 hB2
 go_wp2_with fail
 (try simp only [Exit.inBlock, Exit.then])
 refine bodyPost_ret (v := .tuple #[.agg #[.int .i64 0, .int .i64 0, .int .i64 0, .string ⟨#[]⟩], .bool false]) ?_ rfl ⟨rfl, HE.out⟩
 exact Eq.trans (results_four_tmp (p := 2) (r := 3) rfl _ _ w.heap.size _ _ _ _ _ rfl HT.out.1.2 Tryz.underlying55 rfl deed_size) rfl
end
section
open Go.RowKit
set_option maxRecDepth 100000 in
set_option maxHeartbeats 800000 in
theorem rdd_lead (s : ByteArray) (w : World) (hsz : s.size ≤ 2000000) (hg : Glo w) (x y z : UInt8) (b : Bool) (hc : Lib.cut s.data.toList [32] = ([108, 101, 97, 100], [x, y, z], b)) (p q : Int) (hp : p = (x.toNat : Int) - 48) (hq : q = (z.toNat : Int) - 48) (r : Dl × Bool) (hr1 : dtL 0 p q [] = s.data.toList → r = ((0, p, q, []), true)) (hr2 : ¬ dtL 0 p q [] = s.data.toList → r = ((0, 0, 0, []), false)) :
    Calls Tryz.prog 41 #[.string s] w (RdOut r w) := by
 have hg0 := hg
 have hx := x.toNat_lt
 have hy := z.toNat_lt
 have hw1 : IntKind.i64.wrap ((x.toNat : Int) - 48) = p := by rw [hp]; exact IntWalk.i64_in _ (by omega)
 have hw2 : IntKind.i64.wrap ((z.toNat : Int) - 48) = q := by rw [hq]; exact IntWalk.i64_in _ (by omega)
 have hw3 : IntKind.i64.wrap (x.toNat : Int) = (x.toNat : Int) := IntWalk.i64_in _ (by omega)
 have hw4 : IntKind.i64.wrap (z.toNat : Int) = (z.toNat : Int) := IntWalk.i64_in _ (by omega)
 have hi0 : ∀ W, (Instr.index 9 (.string ⟨[x, y, z].toArray⟩) (.int .i64 0)).run Tryz.prog W = .ok (.int .u8 (x.toNat : Int)) W := fun W => idx_bl [x, y, z] 0 W (Nat.succ_pos _)
 have hi2 : ∀ W, (Instr.index 9 (.string ⟨[x, y, z].toArray⟩) (.int .i64 2)).run Tryz.prog W = .ok (.int .u8 (z.toNat : Int)) W := fun W => idx_bl [x, y, z] 2 W (Nat.lt_succ_self _)
 clear hp hq
 have hR1 := FourF.made w 55 0 0 0 ⟨#[]⟩
 have hb1 := below_new w (.cells #[.int .i64 0, .int .i64 0, .int .i64 0, .string ⟨#[]⟩] 55)
 have hg1 := hg.up hb1
 obtain ⟨m, hm⟩ := hg1.max
 have K1 := strings_Cut s ⟨#[32]⟩ m _ (by omega) hm
 rw [hc] at K1
 simp only [] at K1
 clear hm hc
 go_enter Tryz.func41, Tryz.ntmps41
 go_wp2_with fail
 generalize w.alloc (.cells #[.int .i64 0, .int .i64 0, .int .i64 0, .string ⟨#[]⟩] 55) = w1 at *
 refine K1.mono ?_
 rintro e w2 ⟨rfl, nd, rfl⟩
 have hz1 := hR1.1.1
 have hbA := below_new (w1.drewN nd) (.cells #[.int .i64 0, .int .i64 0, .int .i64 0, .string ⟨#[]⟩] 55)
 have hB2 := bt (bd hb1 nd) hbA
 have hR2 : FourF ((w1.drewN nd).alloc (.cells #[.int .i64 0, .int .i64 0, .int .i64 0, .string ⟨#[]⟩] 55)) w.heap.size 0 0 0 ⟨#[]⟩ := FourF.up (w := w1.drewN nd) hR1 hbA
 have hD2 : FourF ((w1.drewN nd).alloc (.cells #[.int .i64 0, .int .i64 0, .int .i64 0, .string ⟨#[]⟩] 55)) w1.heap.size 0 0 0 ⟨#[]⟩ := FourF.made (w1.drewN nd) 55 0 0 0 ⟨#[]⟩
 have hg2 : Glo ((w1.drewN nd).alloc (.cells #[.int .i64 0, .int .i64 0, .int .i64 0, .string ⟨#[]⟩] 55)) := hg.up hB2
 clear K1 hR1 hb1 hg1 hbA hg
 obtain ⟨⟨_, r0, r1, r2, r3⟩, f0, f1, f2, f3⟩ := id hR2
 obtain ⟨⟨_, d0, d1, d2, d3⟩, e0, e1, e2, e3⟩ := id hD2
 go_wp2_with fail
 generalize ((w1.drewN nd).alloc (.cells #[.int .i64 0, .int .i64 0, .int .i64 0, .string ⟨#[]⟩] 55)) = w3 at *
 have hch : Chg w1.heap.size (w1.heap.size + 1) (w3) (World.drew (((((w3).setCell ⟨w1.heap.size, 0, none⟩ (.int .i64 0)).setCell ⟨w1.heap.size, 1, none⟩ (.int .i64 p)).setCell ⟨w1.heap.size, 2, none⟩ (.int .i64 q)).setCell ⟨w1.heap.size, 3, none⟩ (.string ⟨#[]⟩))) :=
  ((((((Chg.refl _ _ _).setCell (p := ⟨w1.heap.size, 0, none⟩) (Nat.le_refl _) (Nat.lt_succ_self _) _).setCell (p := ⟨w1.heap.size, 1, none⟩) (Nat.le_refl _) (Nat.lt_succ_self _) _).setCell (p := ⟨w1.heap.size, 2, none⟩) (Nat.le_refl _) (Nat.lt_succ_self _) _).setCell (p := ⟨w1.heap.size, 3, none⟩) (Nat.le_refl _) (Nat.lt_succ_self _) _)).dr
 have hD8 : FourF (World.drew (((((w3).setCell ⟨w1.heap.size, 0, none⟩ (.int .i64 0)).setCell ⟨w1.heap.size, 1, none⟩ (.int .i64 p)).setCell ⟨w1.heap.size, 2, none⟩ (.int .i64 q)).setCell ⟨w1.heap.size, 3, none⟩ (.string ⟨#[]⟩))) w1.heap.size 0 p q ⟨#[]⟩ := (hD2.set 0 p q ⟨#[]⟩).dr
 have hR8 := hR2.chg hch (.inl (by omega))
 have hB8 : Below w.heap.size w (World.drew (((((w3).setCell ⟨w1.heap.size, 0, none⟩ (.int .i64 0)).setCell ⟨w1.heap.size, 1, none⟩ (.int .i64 p)).setCell ⟨w1.heap.size, 2, none⟩ (.int .i64 q)).setCell ⟨w1.heap.size, 3, none⟩ (.string ⟨#[]⟩))) := hB2.trans (hch.belowLo (B := w.heap.size) (by omega) hB2.size)
 have hg8 := hg0.up hB8
 have HG8 := Lib.hid hg8
 have HR8 := Lib.hid hR8
 have HD8 := Lib.hid hD8
 have HB8 := Lib.hid hB8
 (try clear d0 d1 d2 d3 e0 e1 e2 e3 r0 r1 r2 r3 f0 f1 f2 f3)
 obtain ⟨⟨_, d0, d1, d2, d3⟩, e0, e1, e2, e3⟩ := id hD2
 obtain ⟨⟨_, g0, g1, g2, g3⟩, _, _, _, _⟩ := id hD8
 clear hch hR8 hD8 hB8 hg8 hR2 hD2 hB2
 go_region
 go_wp2_with fail
 (try clear d0 d1 d2 d3 e0 e1 e2 e3 g0 g1 g2 g3)
 generalize (World.drew (((((w3).setCell ⟨w1.heap.size, 0, none⟩ (.int .i64 0)).setCell ⟨w1.heap.size, 1, none⟩ (.int .i64 p)).setCell ⟨w1.heap.size, 2, none⟩ (.int .i64 q)).setCell ⟨w1.heap.size, 3, none⟩ (.string ⟨#[]⟩))) = w8 at *
 refine (deedText_c 0 p q ⟨#[]⟩ _ (Nat.zero_le _) HG8.out.tab HG8.out.six).mono ?_
 rintro e w9 ⟨rfl, hb9⟩
 have hR9 := HR8.out.up hb9
 have hD9 := HD8.out.up hb9
 have hB9 := bt HB8.out hb9
 clear hb9 HG8 HR8 HD8 HB8
 obtain ⟨⟨_, r0, r1, r2, r3⟩, f0, f1, f2, f3⟩ := id hR9
 obtain ⟨⟨_, d0, d1, d2, d3⟩, e0, e1, e2, e3⟩ := id hD9
 by_cases hE : dtL 0 p q [] = s.data.toList
 · have hT : dtX 0 p q ⟨#[]⟩ = s := by unfold dtX; rw [show (⟨#[]⟩ : ByteArray).data.toList = [] from bl_list [], hE, bl_of]
   have HV := Lib.hid (hr1 hE)
   rw [hT]
   clear hT hE hr1 hr2
   have hend := (((hB9.setCell (p := ⟨w.heap.size, 0, none⟩) (Nat.le_refl _) (.int .i64 0)).setCell (p := ⟨w.heap.size, 1, none⟩) (Nat.le_refl _) (.int .i64 p)).setCell (p := ⟨w.heap.size, 2, none⟩) (Nat.le_refl _) (.int .i64 q)).setCell (p := ⟨w.heap.size, 3, none⟩) (Nat.le_refl _) (.string ⟨#[]⟩)
   have HT := Lib.hid (hR9.set 0 p q ⟨#[]⟩)
   have HE := Lib.hid hend
   clear hend hR9 hD9 hB9
   go_wp2_with fail
   (try simp only [Exit.inBlock, Exit.then])
   refine bodyPost_ret (v := .tuple #[.agg #[.int .i64 0, .int .i64 p, .int .i64 q, .string ⟨#[]⟩], .bool true]) ?_ rfl ⟨by rw [HV.out]; rfl, HE.out⟩
   exact Eq.trans (results_four_tmp (p := 2) (r := 3) rfl _ _ w.heap.size _ _ _ _ _ rfl HT.out.1.2 Tryz.underlying55 rfl deed_size) rfl
 · have hT : ¬ dtX 0 p q ⟨#[]⟩ = s := fun h => hE (by rw [← h]; unfold dtX; rw [bl_list, show (⟨#[]⟩ : ByteArray).data.toList = [] from bl_list []])
   have HV := Lib.hid (hr2 hE)
   generalize dtX 0 p q ⟨#[]⟩ = T at *
   have qT : (T.toList == s.toList) = false := beqF (fun h => hT (by rw [← bl_of T, ← bl_of s, ← ByteArray.toList_eq, ← ByteArray.toList_eq, h]))
   have qN : (T.toList != s.toList) = true := by unfold bne; rw [qT]; rfl
   clear hT hE hr1 hr2
   have hend := (((hB9.setCell (p := ⟨w.heap.size, 0, none⟩) (Nat.le_refl _) (.int .i64 0)).setCell (p := ⟨w.heap.size, 1, none⟩) (Nat.le_refl _) (.int .i64 0)).setCell (p := ⟨w.heap.size, 2, none⟩) (Nat.le_refl _) (.int .i64 0)).setCell (p := ⟨w.heap.size, 3, none⟩) (Nat.le_refl _) (.string ⟨#[]⟩)
   have HT := Lib.hid (hR9.set 0 0 0 ⟨#[]⟩)
   have HE := Lib.hid hend
   clear hend hR9 hD9 hB9
   go_wp2_with fail
   (try simp only [Exit.inBlock, Exit.then])
   refine bodyPost_ret (v := .tuple #[.agg #[.int .i64 0, .int .i64 0, .int .i64 0, .string ⟨#[]⟩], .bool false]) ?_ rfl ⟨by rw [HV.out]; rfl, HE.out⟩
   exact Eq.trans (results_four_tmp (p := 2) (r := 3) rfl _ _ w.heap.size _ _ _ _ _ rfl HT.out.1.2 Tryz.underlying55 rfl deed_size) rfl
end
section
open Go.RowKit
def toDd (d : Dl) : Dd := (d.1, d.2.1, d.2.2.1, bl d.2.2.2)
theorem dtX_dd (d : Dl) : dtX d.1 d.2.1 d.2.2.1 (bl d.2.2.2) = bl (dtD d) := by unfold dtX dtD; rw [bl_list]
theorem dG_dd {cs : List Dl} {k : Nat} (h : k < cs.length) : dG (cs.map toDd) k = toDd cs[k] := by
 rw [dG_get (by rw [List.length_map]; exact h)]
 simp
theorem spl_le (c : UInt8) : ∀ (n : Nat) (l : List UInt8), l.length ≤ n → ∀ u ∈ spl c l, u.length ≤ l.length
 | 0, l, h => by
  obtain rfl := List.length_eq_zero_iff.1 (Nat.le_zero.1 h)
  intro u hu
  have : u = [] := by simpa [spl] using hu
  rw [this]
  exact Nat.le_refl _
 | n + 1, l, h => by
  intro u hu
  rcases spl_any c l with ⟨_, e, _⟩ | ⟨a, b, _, rfl, e, _⟩
  · rw [e, List.mem_singleton] at hu
    rw [hu]
    exact Nat.le_refl _
  · rw [e, List.mem_cons] at hu
    rw [spl_len] at h ⊢
    rcases hu with rfl | hu
    · omega
    · have := spl_le c n b (by omega) u hu
      omega
theorem spl_at (c : UInt8) (l : List UInt8) (k : Nat) : ((spl c l).getD k []).length ≤ l.length := by
 by_cases h : k < (spl c l).length
 · rw [show (spl c l).getD k [] = (spl c l)[k] by simp [List.getD, List.getElem?_eq_getElem h]]
   exact spl_le c l.length l (Nat.le_refl _) _ (List.getElem_mem h)
 · rw [show (spl c l).getD k [] = [] by simp [List.getD, List.getElem?_eq_none (Nat.le_of_not_lt h)]]
   exact Nat.zero_le _
theorem gT_bl (us : List (List UInt8)) (k : Nat) : gT (us.map bl) k = bl (us.getD k []) := by
 unfold gT
 by_cases h : k < us.length
 · simp [List.getD, List.getElem?_eq_getElem h]
 · simp [List.getD, List.getElem?_eq_none (Nat.le_of_not_lt h), bl]
theorem wp_app_ds {o : Oper} {a : Act} {K : Act → World → Prop} {Q : Exit → Act → World → Prop} (w : World) (s x : Operand)
    (ho : o.op = .call { callee := .builtin .append, args := #[s, x], argTypes := #[47, 47] })
    (B : Nat) (v : Value) (ds es : List Dd) (hs : a.eval s = v) (hown : OwnW w B v ds) (A : Option Addr) (n c : Nat) (hx : a.eval x = .slice A n c) (hr : RdE w w.heap.size A n c es) (h0 : 0 < n)
    (hlen : ds.length ≤ 1000000) (hn : n ≤ 1000000) (hB : B ≤ w.heap.size)
    (h : ∀ v' w', OwnW w' B v' (ds ++ es) → Below B w w' → K (a.put o.dst v') w') : o.wp Tryz.prog a w K Q := by
 obtain ⟨i0, hi, hz0, hz1, hz2⟩ := info_parts deed_info
 obtain ⟨b, off, rfl, hb, hcell⟩ := hr.2.2.2 h0
 have hl := hr.len
 refine wp_append_own (P := Tryz.prog) w s x 47 ho B 55 i0 _ 4 40 Tryz.underlying47 hi hz0 hz1 hz2 rfl (by decide) v ds.length (flatD ds) hs hown ⟨b, off, none⟩ n c (flatD es) hx (by rw [flatD_len, hl]) (fun j u hj => ?_) (fun u hu => ?_) (by unfold maxLen; omega) (by omega) hB ?_
 · have hjl : j < n * 4 := by
    have := (List.getElem?_eq_some_iff.1 hj).1
    rw [flatD_len, hl] at this
    exact this
   obtain ⟨c0, c1, c2, c3⟩ := hcell (j / 4) (by omega)
   obtain ⟨f0, f1, f2, f3⟩ := flatD_at es (j / 4) (by rw [hl]; omega)
   rw [Addr.add_lit]
   have hm : j % 4 = 0 ∨ j % 4 = 1 ∨ j % 4 = 2 ∨ j % 4 = 3 := by omega
   rcases hm with hm | hm | hm | hm
   · rw [show j = j / 4 * 4 by omega, f0] at hj
     cases hj
     rw [show off + j = off + j / 4 * 4 by omega]; exact c0
   · rw [show j = j / 4 * 4 + 1 by omega, f1] at hj
     cases hj
     rw [show off + j = off + j / 4 * 4 + 1 by omega]; exact c1
   · rw [show j = j / 4 * 4 + 2 by omega, f2] at hj
     cases hj
     rw [show off + j = off + j / 4 * 4 + 2 by omega]; exact c2
   · rw [show j = j / 4 * 4 + 3 by omega, f3] at hj
     cases hj
     rw [show off + j = off + j / 4 * 4 + 3 by omega]; exact c3
 · unfold flatD at hu
   rw [List.mem_flatMap] at hu
   obtain ⟨d, _, hd⟩ := hu
   simp only [List.mem_cons, List.not_mem_nil, or_false] at hd
   rcases hd with rfl | rfl | rfl | rfl <;> rfl
 intro v' w' hown' hg _
 refine h v' w' ?_ ?_
 · unfold OwnW
   rw [List.length_append, flatD_app, hl]
   exact hown'
 · exact (Below.refl B w).grown hg hB (fun k hk => (World.ownsRow.lt hown k hk).1)
theorem step_app_ds {ops : Array Oper} {o : Oper} {a : Act} {K : Act → World → Prop} {Q : Exit → Act → World → Prop} {E : Prop} (w : World) (hgd : o.guard = none) (s x : Operand)
    (ho : o.op = .call { callee := .builtin .append, args := #[s, x], argTypes := #[47, 47] })
    (B : Nat) (v : Value) (ds es : List Dd) (hs : a.eval s = v) (hown : OwnW w B v ds) (A : Option Addr) (n c : Nat) (hx : a.eval x = .slice A n c) (hr : RdE w w.heap.size A n c es) (h0 : 0 < n)
    (hlen : ds.length ≤ 1000000) (hn : n ≤ 1000000) (hB : B ≤ w.heap.size)
    (h : ∀ v' w', OwnW w' B v' (ds ++ es) → Below B w w' → K (a.put o.dst v') w') :
    if Region.wanted o (yielded ops a.tmps) = true then Oper.wp Tryz.prog o a w K Q else E := by
 have hw : Region.wanted o (yielded ops a.tmps) = true := by simp [Region.wanted, hgd]
 rw [if_pos hw]
 exact wp_app_ds w s x ho B v ds es hs hown A n c hx hr h0 hlen hn hB h
theorem OwnW.new (w : World) (B : Nat) (hB : B ≤ w.heap.size) (ds : List Dd) (cur : Array Value) (hc : cur.toList = flatD ds) (hm : ds.length ≤ 1000000) : OwnW (w.alloc (.cells cur 55)) B (.slice (some ⟨w.heap.size, 0, none⟩) ds.length ds.length) ds := by
 have hsz : cur.size = ds.length * 4 := by rw [← Array.length_toList, hc, flatD_len]
 refine ⟨flatD_len ds, .inr ⟨w.heap.size, ds.length, cur, rfl, hB, heap_alloc_new w _, Nat.le_refl _, by unfold maxLen; omega, hsz, ?_⟩⟩
 rw [hc]
 exact List.take_of_length_le (by rw [flatD_len]; exact Nat.le_refl _)
theorem OwnW.rd {w : World} {B : Nat} {A : Option Addr} {n c : Nat} {ds : List Dd} (h : OwnW w B (.slice A n c) ds) : RdE w w.heap.size A n c ds := by
 obtain ⟨A', c', e, hE⟩ := h.slice_
 cases e
 exact hE.rd
theorem OwnW.up {w w' : World} {B : Nat} {v : Value} {ds : List Dd} (h : OwnW w B v ds) (hb : Below w.heap.size w w') : OwnW w' B v ds := by
 refine ⟨h.1, ?_⟩
 rcases h.2 with h0 | ⟨g, cap, cur, e, hg, hh, r⟩
 · exact .inl h0
 · exact .inr ⟨g, cap, cur, e, hg, by rw [hb.block g (Array.getElem?_eq_some_iff.1 hh).1]; exact hh, r⟩
theorem OwnW.dn {w : World} {B : Nat} {v : Value} {ds : List Dd} (h : OwnW w B v ds) (m : Nat) : OwnW (w.drewN m) B v ds := h
theorem cellUp {w w' : World} {p : Addr} {v : Value} (hb : Below w.heap.size w w') (e : w.cell? p = some v) : w'.cell? p = some v := (hb.cell (World.block_lt_of_cell? w p e)).trans e
theorem chg_of_low {B : Nat} {w w' : World} (h : Below B w w') : Chg B w.heap.size w w' := ⟨h.os, h.tape, h.output, h.size, fun k hk ho => h.block k (by omega)⟩
theorem cands_le {l : List UInt8} {d : Dl} (h : d ∈ cands l) : d.2.2.2.length ≤ l.length := by
 have h1 := spl_at 32 l 1
 unfold cands at h
 simp only [List.mem_cons, List.mem_append] at h
 rcases h with rfl | h | h
 · exact Nat.zero_le _
 · split at h
   · simp only [List.mem_cons, List.not_mem_nil, or_false] at h
     rcases h with rfl | rfl | rfl
     · exact h1
     · exact h1
     · exact Nat.zero_le _
   · cases h
 · split at h
   · simp only [List.mem_cons, List.not_mem_nil, or_false] at h
     rw [h]
     exact Nat.zero_le _
   · cases h
theorem cands_two {l : List UInt8} (h : (spl 32 l).length = 2) : cands l = [(4, 0, 0, [])] ++ [(1, 0, 0, (spl 32 l).getD 1 []), (3, 0, 0, (spl 32 l).getD 1 []), (2, digs ((spl 32 l).getD 1 []), 0, [])] := by
 unfold cands; rw [if_pos h, if_neg (by omega)]; rfl
theorem cands_three {l : List UInt8} (h : (spl 32 l).length = 3) : cands l = [(4, 0, 0, [])] ++ [(0, digs ((spl 32 l).getD 1 []), digs ((spl 32 l).getD 2 []), [])] := by
 unfold cands; rw [if_neg (by omega), if_pos h]; rfl
theorem cands_else {l : List UInt8} (h2 : ¬ (spl 32 l).length = 2) (h3 : ¬ (spl 32 l).length = 3) : cands l = [(4, 0, 0, [])] := by
 unfold cands; rw [if_neg h2, if_neg h3]; rfl
set_option maxRecDepth 100000 in
set_option maxHeartbeats 1600000 in
theorem srd_else (l : List UInt8) (w : World) (hl : l.length ≤ 2000000) (h2 : ¬ (spl 32 l).length = 2) (h3 : ¬ (spl 32 l).length = 3) :
    Calls Tryz.prog 48 #[.string (bl l)] w (RdOut (rdV l) w) := by
 have hR1 := FourF.made w 55 0 0 0 ⟨#[]⟩
 have hb1 := below_new w (.cells #[.int .i64 0, .int .i64 0, .int .i64 0, .string ⟨#[]⟩] 55)
 go_enter Tryz.func48, Tryz.ntmps48
 go_wp2_with fail
 generalize w.alloc (.cells #[.int .i64 0, .int .i64 0, .int .i64 0, .string ⟨#[]⟩] 55) = w1 at *
 have K1 := l1Cut_c l 32 w1 (by omega)
 rw [show (((32 : UInt8).toNat : Nat) : Int) = 32 from rfl] at K1
 refine K1.mono ?_
 rintro e w2 ⟨A2, n2, c2, rfl, hT2, hb2⟩
 have hR2 := hR1.up hb2
 have hB2 := bt hb1 hb2
 have hz1 := hR1.1.1
 have hz2 := hb2.size
 have hn2 : (spl 32 l).length = n2 := by rw [← hT2.len, List.length_map]
 have hbA := below_new w2 (.cells #[.int .i64 4, .int .i64 0, .int .i64 0, .string ⟨#[]⟩] 55)
 have hO3 : OwnW (w2.alloc (.cells #[.int .i64 4, .int .i64 0, .int .i64 0, .string ⟨#[]⟩] 55)) w2.heap.size (.slice (some ⟨w2.heap.size, 0, none⟩) 1 1) [(4, 0, 0, ⟨#[]⟩)] := OwnW.new w2 w2.heap.size (Nat.le_refl _) [(4, 0, 0, ⟨#[]⟩)] _ rfl (by decide)
 have hR3 := hR2.up hbA
 have hB3 := bt hB2 hbA
 have hT3 := hT2.up hbA
 have hz3 := hbA.size
 rw [hn2] at h2 h3
 have q2 : ((n2 : Int) == 2) = false := by rw [beq_eq_false_iff_ne]; omega
 have q3 : ((n2 : Int) == 3) = false := by rw [beq_eq_false_iff_ne]; omega
 have hO9 : OwnW (w2.alloc (.cells #[.int .i64 4, .int .i64 0, .int .i64 0, .string ⟨#[]⟩] 55)) w2.heap.size (.slice (some ⟨w2.heap.size, 0, none⟩) 1 1) ((cands l).map toDd) := by
  rw [cands_else (by omega) (by omega)]; exact hO3
 have hR9 := hR3
 have hB9 := hB3
 clear hO3 hR3 hB3 hT3 hT2 hR2 hB2 hb2 hbA hR1 hb1 K1 h2 h3 hn2
 go_wp2_with fail
 have hE9 := hO9.rd
 have hle1 : (cands l).length = 1 := by rw [← hE9.len, List.length_map]
 clear hO9
 go_loopw [6] (fun i wr => ∃ k : Nat, k ≤ 1 ∧ i = .int .i64 (k : Int) ∧ FourF wr w.heap.size 0 0 0 ⟨#[]⟩ ∧ Below w.heap.size w wr ∧ RdE wr wr.heap.size (some ⟨w2.heap.size, 0, none⟩) 1 1 ((cands l).map toDd) ∧ (∀ j, j < k → ∀ d, (cands l)[j]? = some d → l = [] ∨ dtD d ≠ l)) (fun i _ => 1 - (intOf i).toNat)
 case atStart => exact ⟨0, Nat.zero_le _, rfl, hR9, hB9, hE9, fun j hj => absurd hj (Nat.not_lt_zero _)⟩
 case round =>
  clear hR9 hB9 hE9
  obtain ⟨k, hk, rfl, hR, hB, hE, hno⟩ := hrel
  have hcap := hE.cap
  have hmx := hE.max
  unfold maxLen at hmx
  by_cases hlt : k < 1
  · have hk' : k < (cands l).length := by omega
    obtain ⟨b, off, hAe, hbE, e0, e1, e2, e3⟩ := hE.at_ hlt
    cases hAe
    (try simp only [Nat.zero_add] at e0 e1 e2 e3)
    have hdg := dG_dd hk'
    have hmem : (cands l)[k] ∈ cands l := List.getElem_mem hk'
    have hget : (cands l)[k]? = some (cands l)[k] := List.getElem?_eq_getElem hk'
    have hle := cands_le hmem
    generalize (cands l)[k] = d at *
    rw [show dK ((cands l).map toDd) k = d.1 from by unfold dK; rw [hdg]; rfl] at e0
    rw [show dA ((cands l).map toDd) k = d.2.1 from by unfold dA; rw [hdg]; rfl] at e1
    rw [show dB ((cands l).map toDd) k = d.2.2.1 from by unfold dB; rw [hdg]; rfl] at e2
    rw [show dS ((cands l).map toDd) k = bl d.2.2.2 from by unfold dS; rw [hdg]; rfl] at e3
    clear hdg hmem hk'
    have hk0 : (0 : Int) ≤ (k : Int) := Int.natCast_nonneg _
    have hk1 : (k : Int) < 1 := by omega
    have hnx : l = [] ∨ dtD d ≠ l → ∀ j, j < k + 1 → ∀ d, (cands l)[j]? = some d → l = [] ∨ dtD d ≠ l := fun h j hj d' hd' => by
     rcases Nat.lt_or_ge j k with h1 | h1
     · exact hno j h1 d' hd'
     · obtain rfl : j = k := by omega
       rw [hget] at hd'
       cases hd'
       exact h
    by_cases hl0 : l = []
    · have HN := Lib.hid (hnx (.inl hl0))
      have HE := Lib.hid hE
      have HR := Lib.hid hR
      have q0 : ((bl l).toList == []) = true := by rw [bl_toList, hl0]; rfl
      have q1 : ((bl l).toList != []) = false := by unfold bne; rw [q0]; rfl
      have q2 : (bl l).toList.isEmpty = true := by rw [bl_toList, hl0]; rfl
      have q3 : (bl l).toList = [] := by rw [bl_toList, hl0]
      clear hno hget hnx hl0 hR hE
      go_wp2_with fail
      go_roundw
      case rel => exact ⟨k + 1, by omega, by go_num, HR.out, hB, HE.out, HN.out⟩
      case measure => simp [intOf]; omega
    · have q0 : ((bl l).toList == []) = false := by rw [bl_toList]; exact beqF hl0
      have q1 : ((bl l).toList != []) = true := by unfold bne; rw [q0]; rfl
      have q2 : (bl l).toList.isEmpty = false := by rw [bl_toList]; cases l with
       | nil => exact absurd rfl hl0
       | cons => rfl
      have q3 : ¬ (bl l).toList = [] := by rw [bl_toList]; exact hl0
      have K4 := fun W => sDeedText_c d.1 d.2.1 d.2.2.1 (bl d.2.2.2) W (by rw [bl_size]; omega)
      rw [dtX_dd] at K4
      have HE := Lib.hid hE
      have HR := Lib.hid hR
      have HB := Lib.hid hB
      have HN := Lib.hid hnx
      clear hR hE hB hnx hno hget
      generalize hd1 : d.1 = kd at *
      generalize hd2 : d.2.1 = a1 at *
      generalize hd3 : d.2.2.1 = b1 at *
      go_wp2_with fail
      refine (K4 _).mono ?_
      rintro e w4 ⟨rfl, hb4⟩
      have hR4 := HR.out.up hb4
      have hE4 := HE.out.up hb4
      have hB4 := bt HB.out hb4
      clear K4
      by_cases hq : dtD d = l
      · rw [hq]
        have f0 := cellUp hb4 e0
        have f1 := cellUp hb4 e1
        have f2 := cellUp hb4 e2
        have f3 := cellUp hb4 e3
        have HV : Hid (rdV l = ((kd, a1, b1, d.2.2.2), true)) := Lib.hid (by rw [← hd1, ← hd2, ← hd3]; exact rdV_yes hl0 hq)
        have hend := (((hB4.setCell (p := ⟨w.heap.size, 0, none⟩) (Nat.le_refl _) (.int .i64 kd)).setCell (p := ⟨w.heap.size, 1, none⟩) (Nat.le_refl _) (.int .i64 a1)).setCell (p := ⟨w.heap.size, 2, none⟩) (Nat.le_refl _) (.int .i64 b1)).setCell (p := ⟨w.heap.size, 3, none⟩) (Nat.le_refl _) (.string (bl d.2.2.2))
        have HT := Lib.hid (hR4.set kd a1 b1 (bl d.2.2.2))
        have HEn := Lib.hid hend
        obtain ⟨⟨_, r0, r1, r2, r3⟩, g0, g1, g2, g3⟩ := id hR4
        clear hend hR4 hE4 hB4 HE HR HB HN e0 e1 e2 e3 hb4 hq hd1 hd2 hd3 hl0
        go_wp2_with fail
        (try simp only [Exit.inBlock, Exit.then])
        refine bodyPost_ret (v := .tuple #[.agg #[.int .i64 kd, .int .i64 a1, .int .i64 b1, .string (bl d.2.2.2)], .bool true]) ?_ rfl ⟨by rw [HV.out], HEn.out⟩
        exact Eq.trans (results_four_tmp (p := 2) (r := 3) rfl _ _ w.heap.size _ _ _ _ _ rfl HT.out.1.2 Tryz.underlying55 rfl deed_size) rfl
      · have qT : ((bl (dtD d)).toList == (bl l).toList) = false := by rw [bl_toList, bl_toList]; exact beqF hq
        have HN2 := Lib.hid (HN.out (.inr hq))
        generalize bl (dtD d) = T at *
        have HR4 := Lib.hid hR4
        have HE4 := Lib.hid hE4
        clear hR4 hE4 HN HE HR HB hq hl0 e0 e1 e2 e3 hb4
        go_wp2_with fail
        go_roundw
        case rel => exact ⟨k + 1, by omega, by go_num, HR4.out, hB4, HE4.out, HN2.out⟩
        case measure => simp [intOf]; omega
  · obtain rfl : k = 1 := by omega
    have HV : Hid (rdV l = ((0, 0, 0, []), false)) := Lib.hid (rdV_cands (fun d hd => by
     obtain ⟨j, hj, he⟩ := List.getElem_of_mem hd
     exact hno j (by omega) d (by rw [List.getElem?_eq_getElem hj, he])))
    have hend := (((hB.setCell (p := ⟨w.heap.size, 0, none⟩) (Nat.le_refl _) (.int .i64 0)).setCell (p := ⟨w.heap.size, 1, none⟩) (Nat.le_refl _) (.int .i64 0)).setCell (p := ⟨w.heap.size, 2, none⟩) (Nat.le_refl _) (.int .i64 0)).setCell (p := ⟨w.heap.size, 3, none⟩) (Nat.le_refl _) (.string ⟨#[]⟩)
    have HT := Lib.hid (hR.set 0 0 0 ⟨#[]⟩)
    have HEn := Lib.hid hend
    obtain ⟨⟨_, r0, r1, r2, r3⟩, g0, g1, g2, g3⟩ := id hR
    clear hend hR hE hB hno
    go_wp2_with fail
    (try simp only [Exit.inBlock, Exit.then])
    refine bodyPost_ret (v := .tuple #[.agg #[.int .i64 0, .int .i64 0, .int .i64 0, .string ⟨#[]⟩], .bool false]) ?_ rfl ⟨by rw [HV.out]; rfl, HEn.out⟩
    exact Eq.trans (results_four_tmp (p := 2) (r := 3) rfl _ _ w.heap.size _ _ _ _ _ rfl HT.out.1.2 Tryz.underlying55 rfl deed_size) rfl
set_option maxRecDepth 100000 in
set_option maxHeartbeats 1600000 in
theorem srd_two (l : List UInt8) (w : World) (hl : l.length ≤ 2000000) (h2 : (spl 32 l).length = 2) :
    Calls Tryz.prog 48 #[.string (bl l)] w (RdOut (rdV l) w) := by
 have hR1 := FourF.made w 55 0 0 0 ⟨#[]⟩
 have hb1 := below_new w (.cells #[.int .i64 0, .int .i64 0, .int .i64 0, .string ⟨#[]⟩] 55)
 go_enter Tryz.func48, Tryz.ntmps48
 go_wp2_with fail
 generalize w.alloc (.cells #[.int .i64 0, .int .i64 0, .int .i64 0, .string ⟨#[]⟩] 55) = w1 at *
 have K1 := l1Cut_c l 32 w1 (by omega)
 rw [show (((32 : UInt8).toNat : Nat) : Int) = 32 from rfl] at K1
 refine K1.mono ?_
 rintro e w2 ⟨A2, n2, c2, rfl, hT2, hb2⟩
 have hR2 := hR1.up hb2
 have hB2 := bt hb1 hb2
 have hz1 := hR1.1.1
 have hz2 := hb2.size
 have hn2 : (spl 32 l).length = n2 := by rw [← hT2.len, List.length_map]
 have hbA := below_new w2 (.cells #[.int .i64 4, .int .i64 0, .int .i64 0, .string ⟨#[]⟩] 55)
 have hO3 : OwnW (w2.alloc (.cells #[.int .i64 4, .int .i64 0, .int .i64 0, .string ⟨#[]⟩] 55)) w2.heap.size (.slice (some ⟨w2.heap.size, 0, none⟩) 1 1) [(4, 0, 0, ⟨#[]⟩)] := OwnW.new w2 w2.heap.size (Nat.le_refl _) [(4, 0, 0, ⟨#[]⟩)] _ rfl (by decide)
 have hR3 := hR2.up hbA
 have hB3 := bt hB2 hbA
 have hT3 := hT2.up hbA
 have hz3 := hbA.size
 rw [hn2] at h2
 subst h2
 obtain ⟨b2, off2, hA2, hb2lt, hcells2⟩ := hT2.2.2.2 (by omega)
 cases hA2
 have hc1 := cellUp hbA (hcells2 1 (by omega))
 rw [gT_bl] at hc1
 have hx1 := spl_at 32 l 1
 have KD1 := fun W => l1Digits_c (bl ((spl 32 l).getD 1 [])) W (by rw [bl_size]; omega)
 rw [bl_list] at KD1
 have HC : Hid ((cands l).map toDd = [(4, 0, 0, ⟨#[]⟩)] ++ [(1, 0, 0, bl ((spl 32 l).getD 1 [])), (3, 0, 0, bl ((spl 32 l).getD 1 [])), (2, digs ((spl 32 l).getD 1 []), 0, ⟨#[]⟩)]) := Lib.hid (by rw [cands_two hn2]; rfl)
 generalize bl ((spl 32 l).getD 1 []) = X1 at *
 generalize digs ((spl 32 l).getD 1 []) = y1 at *
 clear hcells2 hx1 hT2 hR2 hB2 hb2 hbA hR1 hb1 K1
 go_wp2_with fail
 generalize (w2.alloc (.cells #[.int .i64 4, .int .i64 0, .int .i64 0, .string ⟨#[]⟩] 55)) = w3 at *
 have hb4 : Below w3.heap.size w3 (World.drew (w3.alloc (.cells #[.int .i64 1, .int .i64 0, .int .i64 0, .string X1, .int .i64 3, .int .i64 0, .int .i64 0, .string X1, .int .i64 2, .int .i64 y1, .int .i64 0, .string ⟨#[]⟩] 55))) := bd (below_new _ _) 1
 have hO4 : OwnW (World.drew (w3.alloc (.cells #[.int .i64 1, .int .i64 0, .int .i64 0, .string X1, .int .i64 3, .int .i64 0, .int .i64 0, .string X1, .int .i64 2, .int .i64 y1, .int .i64 0, .string ⟨#[]⟩] 55))) w2.heap.size (.slice (some ⟨w2.heap.size, 0, none⟩) 1 1) [(4, 0, 0, ⟨#[]⟩)] := (hO3.up (below_new _ _)).dn 1
 have hN4 : RdE (World.drew (w3.alloc (.cells #[.int .i64 1, .int .i64 0, .int .i64 0, .string X1, .int .i64 3, .int .i64 0, .int .i64 0, .string X1, .int .i64 2, .int .i64 y1, .int .i64 0, .string ⟨#[]⟩] 55))) (World.drew (w3.alloc (.cells #[.int .i64 1, .int .i64 0, .int .i64 0, .string X1, .int .i64 3, .int .i64 0, .int .i64 0, .string X1, .int .i64 2, .int .i64 y1, .int .i64 0, .string ⟨#[]⟩] 55))).heap.size (some ⟨w3.heap.size, 0, none⟩) 3 3 [(1, 0, 0, X1), (3, 0, 0, X1), (2, y1, 0, ⟨#[]⟩)] := (OwnW.new w3 w3.heap.size (Nat.le_refl _) [(1, 0, 0, X1), (3, 0, 0, X1), (2, y1, 0, ⟨#[]⟩)] _ rfl (by simp)).rd
 have hB4 := bt hB3 hb4
 have hz4 := hb4.size
 have hlt2 : b2 < w2.heap.size := hb2lt
 have Y3 : Hid (World.cell? w3.drew ⟨b2, off2 + 1, none⟩ = some (.string X1)) := Lib.hid hc1
 have Y4 : Hid (World.cell? (World.drew (w3.alloc (.cells #[.int .i64 1, .int .i64 0, .int .i64 0, .string X1, .int .i64 3, .int .i64 0, .int .i64 0, .string X1, .int .i64 2, .int .i64 y1, .int .i64 0, .string ⟨#[]⟩] 55))) ⟨b2, off2 + 1, none⟩ = some (.string X1)) := Lib.hid (cellUp hb4 hc1)
 have HR3 := Lib.hid hR3
 have HB4 := Lib.hid hB4
 have HB44 := Lib.hid hb4
 have HO4 := Lib.hid hO4
 have HN4 := Lib.hid hN4
 clear hR3 hB4 hB3 hb4 hO3 hO4 hN4 hT3 hc1
 go_region_held3 (fun w' => World.cell? w' ⟨b2, off2 + 1, none⟩ = some (.string X1))
  (first | exact Y3.out | exact Y4.out | exact Y5.out)
  (first
   | (go_at_call_of 63 (Value.string X1); with_reducible refine (KD1 _).mono ?_; rintro e w' ⟨rfl, rfl⟩)
   | (refine step_app_ds _ (by rfl) _ _ (by rfl) w2.heap.size _ [(4, 0, 0, ⟨#[]⟩)] [(1, 0, 0, X1), (3, 0, 0, X1), (2, y1, 0, ⟨#[]⟩)] (by rfl) HO4.out _ 3 3 (by rfl) HN4.out (by omega) (by decide) (by omega) (by omega) ?_; intro v5 w5 hown5 hb5; have Y5 : Hid (World.cell? w5 ⟨b2, off2 + 1, none⟩ = some (.string X1)) := Lib.hid ((hb5.cell (p := ⟨b2, off2 + 1, none⟩) hlt2).trans Y4.out)))
 have hR9 : FourF w5 w.heap.size 0 0 0 ⟨#[]⟩ := (HR3.out.up HB44.out).chg (lo := w2.heap.size) (hi := (World.drew (w3.alloc (.cells #[.int .i64 1, .int .i64 0, .int .i64 0, .string X1, .int .i64 3, .int .i64 0, .int .i64 0, .string X1, .int .i64 2, .int .i64 y1, .int .i64 0, .string ⟨#[]⟩] 55))).heap.size) (chg_of_low hb5) (.inl (by omega))
 have hB9 : Below w.heap.size w w5 := HB4.out.trans (hb5.mono (by omega))
 have hO9 : OwnW w5 w2.heap.size v5 ((cands l).map toDd) := by rw [HC.out]; exact hown5
 obtain ⟨A9, c9, rfl, hE0⟩ := hO9.slice_
 have hl9 : ((cands l).map toDd).length = 4 := by rw [HC.out]; rfl
 rw [hl9] at hO9 ⊢
 clear hE0 HR3 HB4 HB44 HO4 HN4 Y3 Y4 Y5 hown5 hb5 KD1 HC hl9
 go_wp2_with fail
 have hE9 := hO9.rd
 have hle4 : (cands l).length = 4 := by rw [← hE9.len, List.length_map]
 clear hO9
 go_loopw [6] (fun i wr => ∃ k : Nat, k ≤ 4 ∧ i = .int .i64 (k : Int) ∧ FourF wr w.heap.size 0 0 0 ⟨#[]⟩ ∧ Below w.heap.size w wr ∧ RdE wr wr.heap.size A9 4 c9 ((cands l).map toDd) ∧ (∀ j, j < k → ∀ d, (cands l)[j]? = some d → l = [] ∨ dtD d ≠ l)) (fun i _ => 4 - (intOf i).toNat)
 case atStart => exact ⟨0, Nat.zero_le _, rfl, hR9, hB9, hE9, fun j hj => absurd hj (Nat.not_lt_zero _)⟩
 case round =>
  clear hR9 hB9 hE9
  obtain ⟨k, hk, rfl, hR, hB, hE, hno⟩ := hrel
  have hcap := hE.cap
  have hmx := hE.max
  unfold maxLen at hmx
  by_cases hlt : k < 4
  · have hk' : k < (cands l).length := by omega
    obtain ⟨b, off, hAe, hbE, e0, e1, e2, e3⟩ := hE.at_ hlt
    cases hAe
    (try simp only [Nat.zero_add] at e0 e1 e2 e3)
    have hdg := dG_dd hk'
    have hmem : (cands l)[k] ∈ cands l := List.getElem_mem hk'
    have hget : (cands l)[k]? = some (cands l)[k] := List.getElem?_eq_getElem hk'
    have hle := cands_le hmem
    generalize (cands l)[k] = d at *
    rw [show dK ((cands l).map toDd) k = d.1 from by unfold dK; rw [hdg]; rfl] at e0
    rw [show dA ((cands l).map toDd) k = d.2.1 from by unfold dA; rw [hdg]; rfl] at e1
    rw [show dB ((cands l).map toDd) k = d.2.2.1 from by unfold dB; rw [hdg]; rfl] at e2
    rw [show dS ((cands l).map toDd) k = bl d.2.2.2 from by unfold dS; rw [hdg]; rfl] at e3
    clear hdg hmem hk'
    have hk0 : (0 : Int) ≤ (k : Int) := Int.natCast_nonneg _
    have hk1 : (k : Int) < 4 := by omega
    have hnx : l = [] ∨ dtD d ≠ l → ∀ j, j < k + 1 → ∀ d, (cands l)[j]? = some d → l = [] ∨ dtD d ≠ l := fun h j hj d' hd' => by
     rcases Nat.lt_or_ge j k with h1 | h1
     · exact hno j h1 d' hd'
     · obtain rfl : j = k := by omega
       rw [hget] at hd'
       cases hd'
       exact h
    by_cases hl0 : l = []
    · have HN := Lib.hid (hnx (.inl hl0))
      have HE := Lib.hid hE
      have HR := Lib.hid hR
      have q0 : ((bl l).toList == []) = true := by rw [bl_toList, hl0]; rfl
      have q1 : ((bl l).toList != []) = false := by unfold bne; rw [q0]; rfl
      have q2 : (bl l).toList.isEmpty = true := by rw [bl_toList, hl0]; rfl
      have q3 : (bl l).toList = [] := by rw [bl_toList, hl0]
      clear hno hget hnx hl0 hR hE
      go_wp2_with fail
      go_roundw
      case rel => exact ⟨k + 1, by omega, by go_num, HR.out, hB, HE.out, HN.out⟩
      case measure => simp [intOf]; omega
    · have q0 : ((bl l).toList == []) = false := by rw [bl_toList]; exact beqF hl0
      have q1 : ((bl l).toList != []) = true := by unfold bne; rw [q0]; rfl
      have q2 : (bl l).toList.isEmpty = false := by rw [bl_toList]; cases l with
       | nil => exact absurd rfl hl0
       | cons => rfl
      have q3 : ¬ (bl l).toList = [] := by rw [bl_toList]; exact hl0
      have K4 := fun W => sDeedText_c d.1 d.2.1 d.2.2.1 (bl d.2.2.2) W (by rw [bl_size]; omega)
      rw [dtX_dd] at K4
      have HE := Lib.hid hE
      have HR := Lib.hid hR
      have HB := Lib.hid hB
      have HN := Lib.hid hnx
      clear hR hE hB hnx hno hget
      generalize hd1 : d.1 = kd at *
      generalize hd2 : d.2.1 = a1 at *
      generalize hd3 : d.2.2.1 = b1 at *
      go_wp2_with fail
      refine (K4 _).mono ?_
      rintro e w4 ⟨rfl, hb4⟩
      have hR4 := HR.out.up hb4
      have hE4 := HE.out.up hb4
      have hB4 := bt HB.out hb4
      clear K4
      by_cases hq : dtD d = l
      · rw [hq]
        have f0 := cellUp hb4 e0
        have f1 := cellUp hb4 e1
        have f2 := cellUp hb4 e2
        have f3 := cellUp hb4 e3
        have HV : Hid (rdV l = ((kd, a1, b1, d.2.2.2), true)) := Lib.hid (by rw [← hd1, ← hd2, ← hd3]; exact rdV_yes hl0 hq)
        have hend := (((hB4.setCell (p := ⟨w.heap.size, 0, none⟩) (Nat.le_refl _) (.int .i64 kd)).setCell (p := ⟨w.heap.size, 1, none⟩) (Nat.le_refl _) (.int .i64 a1)).setCell (p := ⟨w.heap.size, 2, none⟩) (Nat.le_refl _) (.int .i64 b1)).setCell (p := ⟨w.heap.size, 3, none⟩) (Nat.le_refl _) (.string (bl d.2.2.2))
        have HT := Lib.hid (hR4.set kd a1 b1 (bl d.2.2.2))
        have HEn := Lib.hid hend
        obtain ⟨⟨_, r0, r1, r2, r3⟩, g0, g1, g2, g3⟩ := id hR4
        clear hend hR4 hE4 hB4 HE HR HB HN e0 e1 e2 e3 hb4 hq hd1 hd2 hd3 hl0
        go_wp2_with fail
        (try simp only [Exit.inBlock, Exit.then])
        refine bodyPost_ret (v := .tuple #[.agg #[.int .i64 kd, .int .i64 a1, .int .i64 b1, .string (bl d.2.2.2)], .bool true]) ?_ rfl ⟨by rw [HV.out], HEn.out⟩
        exact Eq.trans (results_four_tmp (p := 2) (r := 3) rfl _ _ w.heap.size _ _ _ _ _ rfl HT.out.1.2 Tryz.underlying55 rfl deed_size) rfl
      · have qT : ((bl (dtD d)).toList == (bl l).toList) = false := by rw [bl_toList, bl_toList]; exact beqF hq
        have HN2 := Lib.hid (HN.out (.inr hq))
        generalize bl (dtD d) = T at *
        have HR4 := Lib.hid hR4
        have HE4 := Lib.hid hE4
        clear hR4 hE4 HN HE HR HB hq hl0 e0 e1 e2 e3 hb4
        go_wp2_with fail
        go_roundw
        case rel => exact ⟨k + 1, by omega, by go_num, HR4.out, hB4, HE4.out, HN2.out⟩
        case measure => simp [intOf]; omega
  · obtain rfl : k = 4 := by omega
    have HV : Hid (rdV l = ((0, 0, 0, []), false)) := Lib.hid (rdV_cands (fun d hd => by
     obtain ⟨j, hj, he⟩ := List.getElem_of_mem hd
     exact hno j (by omega) d (by rw [List.getElem?_eq_getElem hj, he])))
    have hend := (((hB.setCell (p := ⟨w.heap.size, 0, none⟩) (Nat.le_refl _) (.int .i64 0)).setCell (p := ⟨w.heap.size, 1, none⟩) (Nat.le_refl _) (.int .i64 0)).setCell (p := ⟨w.heap.size, 2, none⟩) (Nat.le_refl _) (.int .i64 0)).setCell (p := ⟨w.heap.size, 3, none⟩) (Nat.le_refl _) (.string ⟨#[]⟩)
    have HT := Lib.hid (hR.set 0 0 0 ⟨#[]⟩)
    have HEn := Lib.hid hend
    obtain ⟨⟨_, r0, r1, r2, r3⟩, g0, g1, g2, g3⟩ := id hR
    clear hend hR hE hB hno
    go_wp2_with fail
    (try simp only [Exit.inBlock, Exit.then])
    refine bodyPost_ret (v := .tuple #[.agg #[.int .i64 0, .int .i64 0, .int .i64 0, .string ⟨#[]⟩], .bool false]) ?_ rfl ⟨by rw [HV.out]; rfl, HEn.out⟩
    exact Eq.trans (results_four_tmp (p := 2) (r := 3) rfl _ _ w.heap.size _ _ _ _ _ rfl HT.out.1.2 Tryz.underlying55 rfl deed_size) rfl
set_option maxRecDepth 100000 in
set_option maxHeartbeats 1600000 in
theorem srd_three (l : List UInt8) (w : World) (hl : l.length ≤ 2000000) (h3 : (spl 32 l).length = 3) :
    Calls Tryz.prog 48 #[.string (bl l)] w (RdOut (rdV l) w) := by
 have hR1 := FourF.made w 55 0 0 0 ⟨#[]⟩
 have hb1 := below_new w (.cells #[.int .i64 0, .int .i64 0, .int .i64 0, .string ⟨#[]⟩] 55)
 go_enter Tryz.func48, Tryz.ntmps48
 go_wp2_with fail
 generalize w.alloc (.cells #[.int .i64 0, .int .i64 0, .int .i64 0, .string ⟨#[]⟩] 55) = w1 at *
 have K1 := l1Cut_c l 32 w1 (by omega)
 rw [show (((32 : UInt8).toNat : Nat) : Int) = 32 from rfl] at K1
 refine K1.mono ?_
 rintro e w2 ⟨A2, n2, c2, rfl, hT2, hb2⟩
 have hR2 := hR1.up hb2
 have hB2 := bt hb1 hb2
 have hz1 := hR1.1.1
 have hz2 := hb2.size
 have hn2 : (spl 32 l).length = n2 := by rw [← hT2.len, List.length_map]
 have hbA := below_new w2 (.cells #[.int .i64 4, .int .i64 0, .int .i64 0, .string ⟨#[]⟩] 55)
 have hO3 : OwnW (w2.alloc (.cells #[.int .i64 4, .int .i64 0, .int .i64 0, .string ⟨#[]⟩] 55)) w2.heap.size (.slice (some ⟨w2.heap.size, 0, none⟩) 1 1) [(4, 0, 0, ⟨#[]⟩)] := OwnW.new w2 w2.heap.size (Nat.le_refl _) [(4, 0, 0, ⟨#[]⟩)] _ rfl (by decide)
 have hR3 := hR2.up hbA
 have hB3 := bt hB2 hbA
 have hT3 := hT2.up hbA
 have hz3 := hbA.size
 rw [hn2] at h3
 subst h3
 obtain ⟨b2, off2, hA2, hb2lt, hcells2⟩ := hT2.2.2.2 (by omega)
 cases hA2
 have hc1 := cellUp hbA (hcells2 1 (by omega))
 rw [gT_bl] at hc1
 have hc2 := cellUp hbA (hcells2 2 (by omega))
 rw [gT_bl] at hc2
 have hx1 := spl_at 32 l 1
 have KD1 := fun W => l1Digits_c (bl ((spl 32 l).getD 1 [])) W (by rw [bl_size]; omega)
 rw [bl_list] at KD1
 have hx2 := spl_at 32 l 2
 have KD2 := fun W => l1Digits_c (bl ((spl 32 l).getD 2 [])) W (by rw [bl_size]; omega)
 rw [bl_list] at KD2
 have HC : Hid ((cands l).map toDd = [(4, 0, 0, ⟨#[]⟩)] ++ [(0, digs ((spl 32 l).getD 1 []), digs ((spl 32 l).getD 2 []), ⟨#[]⟩)]) := Lib.hid (by rw [cands_three hn2]; rfl)
 generalize bl ((spl 32 l).getD 1 []) = X1 at *
 generalize digs ((spl 32 l).getD 1 []) = y1 at *
 generalize bl ((spl 32 l).getD 2 []) = X2 at *
 generalize digs ((spl 32 l).getD 2 []) = y2 at *
 clear hcells2 hx1 hx2 hT2 hR2 hB2 hb2 hbA hR1 hb1 K1
 go_wp2_with fail
 generalize (w2.alloc (.cells #[.int .i64 4, .int .i64 0, .int .i64 0, .string ⟨#[]⟩] 55)) = w3 at *
 have hb4 : Below w3.heap.size w3 (World.drew (w3.alloc (.cells #[.int .i64 0, .int .i64 y1, .int .i64 y2, .string ⟨#[]⟩] 55))) := bd (below_new _ _) 1
 have hO4 : OwnW (World.drew (w3.alloc (.cells #[.int .i64 0, .int .i64 y1, .int .i64 y2, .string ⟨#[]⟩] 55))) w2.heap.size (.slice (some ⟨w2.heap.size, 0, none⟩) 1 1) [(4, 0, 0, ⟨#[]⟩)] := (hO3.up (below_new _ _)).dn 1
 have hN4 : RdE (World.drew (w3.alloc (.cells #[.int .i64 0, .int .i64 y1, .int .i64 y2, .string ⟨#[]⟩] 55))) (World.drew (w3.alloc (.cells #[.int .i64 0, .int .i64 y1, .int .i64 y2, .string ⟨#[]⟩] 55))).heap.size (some ⟨w3.heap.size, 0, none⟩) 1 1 [(0, y1, y2, ⟨#[]⟩)] := (OwnW.new w3 w3.heap.size (Nat.le_refl _) [(0, y1, y2, ⟨#[]⟩)] _ rfl (by simp)).rd
 have hB4 := bt hB3 hb4
 have hz4 := hb4.size
 have hlt2 : b2 < w2.heap.size := hb2lt
 have Y3 : Hid (World.cell? w3.drew ⟨b2, off2 + 1, none⟩ = some (.string X1) ∧ World.cell? w3.drew ⟨b2, off2 + 2, none⟩ = some (.string X2)) := Lib.hid ⟨hc1, hc2⟩
 have Y4 : Hid (World.cell? (World.drew (w3.alloc (.cells #[.int .i64 0, .int .i64 y1, .int .i64 y2, .string ⟨#[]⟩] 55))) ⟨b2, off2 + 1, none⟩ = some (.string X1) ∧ World.cell? (World.drew (w3.alloc (.cells #[.int .i64 0, .int .i64 y1, .int .i64 y2, .string ⟨#[]⟩] 55))) ⟨b2, off2 + 2, none⟩ = some (.string X2)) := Lib.hid ⟨cellUp hb4 hc1, cellUp hb4 hc2⟩
 have HR3 := Lib.hid hR3
 have HB4 := Lib.hid hB4
 have HB44 := Lib.hid hb4
 have HO4 := Lib.hid hO4
 have HN4 := Lib.hid hN4
 clear hR3 hB4 hB3 hb4 hO3 hO4 hN4 hT3 hc1 hc2
 go_region_held3 (fun w' => World.cell? w' ⟨b2, off2 + 1, none⟩ = some (.string X1) ∧ World.cell? w' ⟨b2, off2 + 2, none⟩ = some (.string X2))
  (first | exact Y3.out | exact Y4.out | exact Y5.out)
  (first
   | (go_at_call_of 63 (Value.string X1); with_reducible refine (KD1 _).mono ?_; rintro e w' ⟨rfl, rfl⟩)
   | (go_at_call_of 63 (Value.string X2); with_reducible refine (KD2 _).mono ?_; rintro e w' ⟨rfl, rfl⟩)
   | (refine step_app_ds _ (by rfl) _ _ (by rfl) w2.heap.size _ [(4, 0, 0, ⟨#[]⟩)] [(0, y1, y2, ⟨#[]⟩)] (by rfl) HO4.out _ 1 1 (by rfl) HN4.out (by omega) (by decide) (by omega) (by omega) ?_; intro v5 w5 hown5 hb5; have Y5 : Hid (World.cell? w5 ⟨b2, off2 + 1, none⟩ = some (.string X1) ∧ World.cell? w5 ⟨b2, off2 + 2, none⟩ = some (.string X2)) := Lib.hid ⟨(hb5.cell (p := ⟨b2, off2 + 1, none⟩) hlt2).trans Y4.out.1, (hb5.cell (p := ⟨b2, off2 + 2, none⟩) hlt2).trans Y4.out.2⟩))
 have hR9 : FourF w5 w.heap.size 0 0 0 ⟨#[]⟩ := (HR3.out.up HB44.out).chg (lo := w2.heap.size) (hi := (World.drew (w3.alloc (.cells #[.int .i64 0, .int .i64 y1, .int .i64 y2, .string ⟨#[]⟩] 55))).heap.size) (chg_of_low hb5) (.inl (by omega))
 have hB9 : Below w.heap.size w w5 := HB4.out.trans (hb5.mono (by omega))
 have hO9 : OwnW w5 w2.heap.size v5 ((cands l).map toDd) := by rw [HC.out]; exact hown5
 obtain ⟨A9, c9, rfl, hE0⟩ := hO9.slice_
 have hl9 : ((cands l).map toDd).length = 2 := by rw [HC.out]; rfl
 rw [hl9] at hO9 ⊢
 clear hE0 HR3 HB4 HB44 HO4 HN4 Y3 Y4 Y5 hown5 hb5 KD1 KD2 HC hl9
 go_wp2_with fail
 have hE9 := hO9.rd
 have hle2 : (cands l).length = 2 := by rw [← hE9.len, List.length_map]
 clear hO9
 go_loopw [6] (fun i wr => ∃ k : Nat, k ≤ 2 ∧ i = .int .i64 (k : Int) ∧ FourF wr w.heap.size 0 0 0 ⟨#[]⟩ ∧ Below w.heap.size w wr ∧ RdE wr wr.heap.size A9 2 c9 ((cands l).map toDd) ∧ (∀ j, j < k → ∀ d, (cands l)[j]? = some d → l = [] ∨ dtD d ≠ l)) (fun i _ => 2 - (intOf i).toNat)
 case atStart => exact ⟨0, Nat.zero_le _, rfl, hR9, hB9, hE9, fun j hj => absurd hj (Nat.not_lt_zero _)⟩
 case round =>
  clear hR9 hB9 hE9
  obtain ⟨k, hk, rfl, hR, hB, hE, hno⟩ := hrel
  have hcap := hE.cap
  have hmx := hE.max
  unfold maxLen at hmx
  by_cases hlt : k < 2
  · have hk' : k < (cands l).length := by omega
    obtain ⟨b, off, hAe, hbE, e0, e1, e2, e3⟩ := hE.at_ hlt
    cases hAe
    (try simp only [Nat.zero_add] at e0 e1 e2 e3)
    have hdg := dG_dd hk'
    have hmem : (cands l)[k] ∈ cands l := List.getElem_mem hk'
    have hget : (cands l)[k]? = some (cands l)[k] := List.getElem?_eq_getElem hk'
    have hle := cands_le hmem
    generalize (cands l)[k] = d at *
    rw [show dK ((cands l).map toDd) k = d.1 from by unfold dK; rw [hdg]; rfl] at e0
    rw [show dA ((cands l).map toDd) k = d.2.1 from by unfold dA; rw [hdg]; rfl] at e1
    rw [show dB ((cands l).map toDd) k = d.2.2.1 from by unfold dB; rw [hdg]; rfl] at e2
    rw [show dS ((cands l).map toDd) k = bl d.2.2.2 from by unfold dS; rw [hdg]; rfl] at e3
    clear hdg hmem hk'
    have hk0 : (0 : Int) ≤ (k : Int) := Int.natCast_nonneg _
    have hk1 : (k : Int) < 2 := by omega
    have hnx : l = [] ∨ dtD d ≠ l → ∀ j, j < k + 1 → ∀ d, (cands l)[j]? = some d → l = [] ∨ dtD d ≠ l := fun h j hj d' hd' => by
     rcases Nat.lt_or_ge j k with h1 | h1
     · exact hno j h1 d' hd'
     · obtain rfl : j = k := by omega
       rw [hget] at hd'
       cases hd'
       exact h
    by_cases hl0 : l = []
    · have HN := Lib.hid (hnx (.inl hl0))
      have HE := Lib.hid hE
      have HR := Lib.hid hR
      have q0 : ((bl l).toList == []) = true := by rw [bl_toList, hl0]; rfl
      have q1 : ((bl l).toList != []) = false := by unfold bne; rw [q0]; rfl
      have q2 : (bl l).toList.isEmpty = true := by rw [bl_toList, hl0]; rfl
      have q3 : (bl l).toList = [] := by rw [bl_toList, hl0]
      clear hno hget hnx hl0 hR hE
      go_wp2_with fail
      go_roundw
      case rel => exact ⟨k + 1, by omega, by go_num, HR.out, hB, HE.out, HN.out⟩
      case measure => simp [intOf]; omega
    · have q0 : ((bl l).toList == []) = false := by rw [bl_toList]; exact beqF hl0
      have q1 : ((bl l).toList != []) = true := by unfold bne; rw [q0]; rfl
      have q2 : (bl l).toList.isEmpty = false := by rw [bl_toList]; cases l with
       | nil => exact absurd rfl hl0
       | cons => rfl
      have q3 : ¬ (bl l).toList = [] := by rw [bl_toList]; exact hl0
      have K4 := fun W => sDeedText_c d.1 d.2.1 d.2.2.1 (bl d.2.2.2) W (by rw [bl_size]; omega)
      rw [dtX_dd] at K4
      have HE := Lib.hid hE
      have HR := Lib.hid hR
      have HB := Lib.hid hB
      have HN := Lib.hid hnx
      clear hR hE hB hnx hno hget
      generalize hd1 : d.1 = kd at *
      generalize hd2 : d.2.1 = a1 at *
      generalize hd3 : d.2.2.1 = b1 at *
      go_wp2_with fail
      refine (K4 _).mono ?_
      rintro e w4 ⟨rfl, hb4⟩
      have hR4 := HR.out.up hb4
      have hE4 := HE.out.up hb4
      have hB4 := bt HB.out hb4
      clear K4
      by_cases hq : dtD d = l
      · rw [hq]
        have f0 := cellUp hb4 e0
        have f1 := cellUp hb4 e1
        have f2 := cellUp hb4 e2
        have f3 := cellUp hb4 e3
        have HV : Hid (rdV l = ((kd, a1, b1, d.2.2.2), true)) := Lib.hid (by rw [← hd1, ← hd2, ← hd3]; exact rdV_yes hl0 hq)
        have hend := (((hB4.setCell (p := ⟨w.heap.size, 0, none⟩) (Nat.le_refl _) (.int .i64 kd)).setCell (p := ⟨w.heap.size, 1, none⟩) (Nat.le_refl _) (.int .i64 a1)).setCell (p := ⟨w.heap.size, 2, none⟩) (Nat.le_refl _) (.int .i64 b1)).setCell (p := ⟨w.heap.size, 3, none⟩) (Nat.le_refl _) (.string (bl d.2.2.2))
        have HT := Lib.hid (hR4.set kd a1 b1 (bl d.2.2.2))
        have HEn := Lib.hid hend
        obtain ⟨⟨_, r0, r1, r2, r3⟩, g0, g1, g2, g3⟩ := id hR4
        clear hend hR4 hE4 hB4 HE HR HB HN e0 e1 e2 e3 hb4 hq hd1 hd2 hd3 hl0
        go_wp2_with fail
        (try simp only [Exit.inBlock, Exit.then])
        refine bodyPost_ret (v := .tuple #[.agg #[.int .i64 kd, .int .i64 a1, .int .i64 b1, .string (bl d.2.2.2)], .bool true]) ?_ rfl ⟨by rw [HV.out], HEn.out⟩
        exact Eq.trans (results_four_tmp (p := 2) (r := 3) rfl _ _ w.heap.size _ _ _ _ _ rfl HT.out.1.2 Tryz.underlying55 rfl deed_size) rfl
      · have qT : ((bl (dtD d)).toList == (bl l).toList) = false := by rw [bl_toList, bl_toList]; exact beqF hq
        have HN2 := Lib.hid (HN.out (.inr hq))
        generalize bl (dtD d) = T at *
        have HR4 := Lib.hid hR4
        have HE4 := Lib.hid hE4
        clear hR4 hE4 HN HE HR HB hq hl0 e0 e1 e2 e3 hb4
        go_wp2_with fail
        go_roundw
        case rel => exact ⟨k + 1, by omega, by go_num, HR4.out, hB4, HE4.out, HN2.out⟩
        case measure => simp [intOf]; omega
  · obtain rfl : k = 2 := by omega
    have HV : Hid (rdV l = ((0, 0, 0, []), false)) := Lib.hid (rdV_cands (fun d hd => by
     obtain ⟨j, hj, he⟩ := List.getElem_of_mem hd
     exact hno j (by omega) d (by rw [List.getElem?_eq_getElem hj, he])))
    have hend := (((hB.setCell (p := ⟨w.heap.size, 0, none⟩) (Nat.le_refl _) (.int .i64 0)).setCell (p := ⟨w.heap.size, 1, none⟩) (Nat.le_refl _) (.int .i64 0)).setCell (p := ⟨w.heap.size, 2, none⟩) (Nat.le_refl _) (.int .i64 0)).setCell (p := ⟨w.heap.size, 3, none⟩) (Nat.le_refl _) (.string ⟨#[]⟩)
    have HT := Lib.hid (hR.set 0 0 0 ⟨#[]⟩)
    have HEn := Lib.hid hend
    obtain ⟨⟨_, r0, r1, r2, r3⟩, g0, g1, g2, g3⟩ := id hR
    clear hend hR hE hB hno
    go_wp2_with fail
    (try simp only [Exit.inBlock, Exit.then])
    refine bodyPost_ret (v := .tuple #[.agg #[.int .i64 0, .int .i64 0, .int .i64 0, .string ⟨#[]⟩], .bool false]) ?_ rfl ⟨by rw [HV.out]; rfl, HEn.out⟩
    exact Eq.trans (results_four_tmp (p := 2) (r := 3) rfl _ _ w.heap.size _ _ _ _ _ rfl HT.out.1.2 Tryz.underlying55 rfl deed_size) rfl
theorem sReadDeed_c (l : List UInt8) (w : World) (hl : l.length ≤ 2000000) :
    Calls Tryz.prog 48 #[.string (bl l)] w (RdOut (rdV l) w) := by
 by_cases h2 : (spl 32 l).length = 2
 · exact srd_two l w hl h2
 · by_cases h3 : (spl 32 l).length = 3
   · exact srd_three l w hl h3
   · exact srd_else l w hl h2 h3
end
end Go.Proofs.YtoinlkdmfclnbaaGreatDoor
