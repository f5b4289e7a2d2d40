/- Bundle VA. -/
import Derived.Lib.MinMax
import Derived.Deep.RegionWith
import Derived.Test.YtoinlkdmfclnbaaGreatDoorYM25
import Derived.Test.YtoinlkdmfclnbaaGreatDoorYV15
import Derived.Test.YtoinlkdmfclnbaaGreatDoorYV7
import Derived.Test.YtoinlkdmfclnbaaGreatDoorYV9
namespace Go.Proofs.YtoinlkdmfclnbaaGreatDoor
set_option linter.unusedVariables false
section
open Go.RowKit
set_option maxRecDepth 100000 in
set_option maxHeartbeats 1600000 in
theorem sHighOf_c {f : List Nat} (hf : MapN f) (A : Option Addr) (c : Nat) (w : World) (h : Rd w w.heap.size A f.length c (ints f)) :
    Calls Tryz.prog 121 #[.slice A f.length c] w fun e w' => e = .returned (.int .i64 (hiK f f.length : Int)) ∧ Below w.heap.size w w' := by
 have hcp := h.cap
 have hmx := h.max
 unfold maxLen at hmx
 have h7 := hf.le7
 have h1 := hf.pos
 have hs := mapOk_ints hf
 go_enter Tryz.func121, Tryz.ntmps121
 go_wp2_with fail
 go_loopw [3, 4] (fun v i wr => ∃ (k : Nat), k ≤ f.length ∧ i = .int .i64 k ∧ v = .int .i64 (hkI f k) ∧ Below w.heap.size w wr) (fun _ i _ => f.length - (intOf i).toNat)
 case atStart => exact ⟨0, Nat.zero_le _, rfl, rfl, Below.refl _ _⟩
 case round =>
  obtain ⟨k, hk, rfl, rfl, hbw⟩ := hrel
  have hrd := h.up hbw
  have K1 := sMapOk_b _ _ _ _ _ _ hrd hs
  by_cases hlt : k < f.length
  · have K2 := sTailOf_c A f.length c (ints f) (k : Int) wr hrd
    rw [tailI_ok hf hlt] at K2
    have hm := hkI_max f k
    have hm' := hkI_max' f k
    obtain ⟨y1, hy1⟩ : ∃ y, hkI f (k + 1) = y := ⟨_, rfl⟩
    rw [hy1] at hm hm'
    have HY := Lib.hid hy1
    clear hy1
    generalize hkI f k = y0 at *
    generalize tl f k = t0 at *
    go_wp2_with (go_at_call 67; with_reducible refine K1.mono ?_; rintro e w' ⟨rfl, rfl⟩)
    refine K2.mono ?_
    rintro e w3 ⟨rfl, hb3⟩
    have hB3 := bt hbw hb3
    go_wp2_with fail
    go_roundw
    case rel => exact ⟨k + 1, by omega, by go_num, by rw [HY.out], hB3⟩
    case measure => simp [intOf]; omega
  · obtain rfl : k = f.length := by omega
    go_wp2_with fail
    go_ret
    exact ⟨intEnd (hkI_pos h1), hbw⟩
set_option maxHeartbeats 800000 in
theorem sIndexOf_c {f : List Nat} (hf : MapN f) (A : Option Addr) (c : Nat) (w : World) (h : Rd w w.heap.size A f.length c (ints f)) :
    Calls Tryz.prog 52 #[.slice A f.length c] w fun e w' => e = .returned (.int .i64 (idxN f : Int)) ∧ Below w.heap.size w w' := by
 have hs := mapOk_ints hf
 have K1 := sMapOk_b _ _ _ _ _ _ h hs
 have K2 := sHighOf_c hf A c w h
 have hm : max (hiK f f.length : Int) 1 = (idxN f : Int) := by unfold idxN; omega
 have hm' : max 1 (hiK f f.length : Int) = (idxN f : Int) := by unfold idxN; omega
 generalize hiK f f.length = y at *
 generalize idxN f = z at *
 go_enter Tryz.func52, Tryz.ntmps52
 go_wp2_with (go_at_call 67; with_reducible refine K1.mono ?_; rintro e w' ⟨rfl, rfl⟩)
 refine K2.mono ?_
 rintro e w3 ⟨rfl, hb3⟩
 go_wp2_with fail
 go_ret
 exact ⟨rfl, hb3⟩
theorem lcm_div {a b : Nat} (ha : 1 ≤ a) : a / Nat.gcd a b * b = Nat.lcm a b := by
 unfold Nat.lcm
 rw [Nat.mul_comm a b, Nat.mul_div_assoc _ (Nat.gcd_dvd_left a b), Nat.mul_comm]
set_option maxHeartbeats 1600000 in
theorem sCommon_c (a b : Nat) (w : World) (ha : 1 ≤ a) (hb : 1 ≤ b) (ha9 : a ≤ 1000) (hb9 : b ≤ 1000) :
    Calls Tryz.prog 122 #[.int .i64 (a : Int), .int .i64 (b : Int)] w fun e w' => e = .returned (.int .i64 (Nat.lcm a b : Int)) ∧ w = w' := by
 have HL := Lib.hid (lcm_div (a := a) (b := b) ha)
 have HG : Hid (1 ≤ Nat.gcd a b) := Lib.hid (Nat.gcd_pos_of_pos_left b ha)
 go_enter Tryz.func122, Tryz.ntmps122
 go_wp2_with fail
 go_loopw [5, 6] (fun x y wr => ∃ n m : Nat, x = .int .i64 (n : Int) ∧ y = .int .i64 (m : Int) ∧ Nat.gcd n m = Nat.gcd a b ∧ n ≤ 1000 ∧ m ≤ 1000 ∧ wr = w) (fun _ y _ => (intOf y).toNat)
 case atStart => exact ⟨a, b, rfl, rfl, rfl, ha9, hb9, rfl⟩
 case round =>
  obtain ⟨n, m, rfl, rfl, hgc, hn, hm, rfl⟩ := hrel
  have HC := Lib.hid hgc
  by_cases h0 : 0 < m
  · obtain ⟨r, hr⟩ : ∃ r : Nat, n % m = r := ⟨_, rfl⟩
    have hrl : r < m := by rw [← hr]; exact Nat.mod_lt _ h0
    have hri : (n : Int) % (m : Int) = (r : Int) := by rw [← hr]; exact (Int.natCast_emod n m).symm
    have hrt : (n : Int).tmod (m : Int) = (r : Int) := by rw [Int.tmod_eq_emod_of_nonneg (by omega)]; exact hri
    have HN : Hid (Nat.gcd m r = Nat.gcd a b) := Lib.hid (by rw [← hgc, ← hr, Nat.gcd_comm n m, Nat.gcd_rec m n, Nat.gcd_comm])
    have h0i : (0 : Int) < (m : Int) := by omega
    have h0n : ¬ (m : Int) = 0 := by omega
    have h0q : ((m : Int) == 0) = false := by rw [beq_eq_false_iff_ne]; exact h0n
    clear hgc hr
    go_wp2_with fail
    go_roundw
    case rel => exact ⟨m, r, rfl, by first | rfl | go_num, HN.out, by omega, by omega, by first | rfl | trivial⟩
    case measure => simp [intOf]; omega
  · obtain rfl : m = 0 := by omega
    rw [Nat.gcd_zero_right] at hgc
    subst hgc
    have hg1 := HG.out
    obtain ⟨g, hgg⟩ : ∃ g, Nat.gcd a b = g := ⟨_, rfl⟩
    have hl := HL.out
    rw [hgg] at hl hg1 hn ⊢
    obtain ⟨q, hq⟩ : ∃ q : Nat, a / g = q := ⟨_, rfl⟩
    rw [hq] at hl
    have hqa : q ≤ a := by rw [← hq]; exact Nat.div_le_self _ _
    have hqi : (a : Int) / (g : Int) = (q : Int) := by rw [← hq]; exact (Int.natCast_ediv a g).symm
    have hqt : (a : Int).tdiv (g : Int) = (q : Int) := by rw [Int.tdiv_eq_ediv_of_nonneg (by omega)]; exact hqi
    have hm9 : q * b ≤ 1000 * 1000 := Nat.mul_le_mul (by omega) hb9
    have hwr : IntKind.i64.wrap ((q : Int) * (b : Int)) = ((q * b : Nat) : Int) := by
     rw [show (q : Int) * (b : Int) = ((q * b : Nat) : Int) by simp]
     exact IntWalk.i64_in _ (by omega)
    have hg0 : ¬ (g : Int) = 0 := by omega
    have hgq : ((g : Int) == 0) = false := by rw [beq_eq_false_iff_ne]; exact hg0
    have HE : Hid (((q * b : Nat) : Int) = (Nat.lcm a b : Int)) := Lib.hid (by rw [hl])
    clear hl hq
    go_wp2_with fail
    go_ret
    exact ⟨intEnd (by first | exact HE.out | (rw [← HE.out]; first | rfl | exact hwr | simp)), rfl⟩
theorem Rd.lenN {w : World} {B n c : Nat} {A : Option Addr} {xs : List Int} (h : Rd w B A n c xs) : xs.length = n := h.1
set_option maxRecDepth 100000 in
set_option maxHeartbeats 1600000 in
theorem sPeriodOf_c {f : List Nat} (hf : MapN f) (A : Option Addr) (c : Nat) (w : World) (h : Rd w w.heap.size A f.length c (ints f)) :
    Calls Tryz.prog 53 #[.slice A f.length c] w fun e w' => e = .returned (.int .i64 (perN f : Int)) ∧ Below w.heap.size w w' := by
 have hs := mapOk_ints hf
 have h7 := hf.le7
 have K1 := sMapOk_b _ _ _ _ _ _ h hs
 have K2 := sLoopsOf_c A f.length c (ints f) w h
 unfold Rows at K2
 rw [loopsI_ok hf] at K2
 have hfit := loopsN_fit hf
 have hll := loopsN_len f
 have HP : Hid (perN f = perK (loopsN f) (loopsN f).length) := Lib.hid rfl
 generalize loopsN f = xss at *
 have HPK : Hid (∀ k, k < xss.length → perK xss (k + 1) = Nat.lcm (perK xss k) (gR xss k).length) := Lib.hid (fun k _ => rfl)
 have HPL : Hid (∀ k, k ≤ xss.length → 1 ≤ perK xss k ∧ perK xss k ≤ 420) := Lib.hid (fun k hk => perK_le hfit hk)
 have HF := Lib.hid hfit
 clear hfit
 go_enter Tryz.func53, Tryz.ntmps53
 go_wp2_with (go_at_call 67; with_reducible refine K1.mono ?_; rintro e w' ⟨rfl, rfl⟩)
 refine K2.mono ?_
 rintro e w3 ⟨v, rfl, hO3, hb3⟩
 obtain ⟨A3, c3, rfl, hR3⟩ := hO3.form
 obtain ⟨N, hN⟩ : ∃ N, xss.length = N := ⟨_, rfl⟩
 rw [hN] at hR3 hll
 have hc3 := hR3.cap
 clear K1 K2 hO3
 go_wp2_with fail
 go_loopw [3, 5] (fun p i wr => ∃ k : Nat, k ≤ N ∧ i = .int .i64 (k : Int) ∧ p = .int .i64 (perK xss k : Int) ∧ wr = w3) (fun _ i _ => N - (intOf i).toNat)
 case atStart => exact ⟨0, Nat.zero_le _, rfl, rfl, rfl⟩
 case round =>
  obtain ⟨k, hk, rfl, rfl, rfl⟩ := hrel
  by_cases hlt : k < N
  · obtain ⟨b, off, A', n', c', rfl, hb, hcell, hrow⟩ := hR3.at_ hlt
    have hn' := hrow.lenN
    have hfk := HF.out k (by omega)
    have hpk := HPL.out k (by omega)
    have hst := HPK.out k (by omega)
    rw [hn'] at hfk hst
    have HS := Lib.hid hst
    clear hst
    generalize perK xss k = p at *
    have hk0 : (0 : Int) ≤ (k : Int) := Int.natCast_nonneg _
    have hk1 : (k : Int) < (N : Int) := by omega
    go_wp2_with fail
    refine (sCommon_c p n' _ hpk.1 hfk.1 (by omega) (by omega)).mono ?_
    rintro e w4 ⟨rfl, rfl⟩
    go_wp2_with fail
    go_roundw
    case rel => exact ⟨k + 1, by omega, by go_num, by rw [HS.out], by first | rfl | trivial⟩
    case measure => simp [intOf]; omega
  · obtain rfl : k = N := by omega
    go_wp2_with fail
    go_ret
    exact ⟨intEnd (by rw [HP.out, hN]), hb3⟩
theorem pow7b {n k : Nat} (hn : n ≤ 7) (hk : k ≤ 7) : n ^ k ≤ 823543 := by
 have h1 : n ^ k ≤ 7 ^ k := Nat.pow_le_pow_left hn k
 have h2 : 7 ^ k ≤ 7 ^ 7 := Nat.pow_le_pow_right (by omega) hk
 have h3 : (7 : Nat) ^ 7 = 823543 := by decide
 omega
def pwN (n k : Nat) : Nat := n ^ k
theorem pwN_le {n k : Nat} (hn : n ≤ 7) (hk : k ≤ 7) : pwN n k ≤ 823543 := pow7b hn hk
theorem pwN_succ (n k : Nat) : pwN n k * n = pwN n (k + 1) := (Nat.pow_succ ..).symm
theorem mulN_fit {p n : Nat} (hp : p ≤ 1000000000) (hn : n ≤ 100) : IntKind.i64.wrap ((p : Int) * (n : Int)) = ((p * n : Nat) : Int) := by
 have h : p * n ≤ 1000000000 * 100 := Nat.mul_le_mul hp hn
 rw [show (p : Int) * (n : Int) = ((p * n : Nat) : Int) by simp]
 exact IntWalk.i64_in _ (by omega)
set_option maxHeartbeats 800000 in
theorem sPower_c (n t : Nat) (w : World) (hn : n ≤ 7) (ht : t ≤ 7) :
    Calls Tryz.prog 130 #[.int .i64 (n : Int), .int .i64 (t : Int)] w fun e w' => e = .returned (.int .i64 (pwN n t : Int)) ∧ w = w' := by
 go_enter Tryz.func130, Tryz.ntmps130
 go_wp2_with fail
 go_loopw [5, 6] (fun p i wr => ∃ k : Nat, k ≤ t ∧ i = .int .i64 (k : Int) ∧ p = .int .i64 (pwN n k : Int) ∧ wr = w) (fun _ i _ => t - (intOf i).toNat)
 case atStart => exact ⟨0, Nat.zero_le _, rfl, rfl, rfl⟩
 case round =>
  obtain ⟨k, hk, rfl, rfl, rfl⟩ := hrel
  have hp := pwN_le (n := n) (k := k) hn (by omega)
  have HS : Hid (pwN n k * n = pwN n (k + 1)) := pwN_succ n k
  by_cases hlt : k < t
  · have hk1 : (k : Int) < (t : Int) := by omega
    generalize pwN n k = p at *
    have hw := mulN_fit (p := p) (n := n) (by omega) (by omega)
    go_wp2_with fail
    go_roundw
    case rel => exact ⟨k + 1, by omega, by go_num, by rw [← HS.out]; first | rfl | simp, by first | rfl | trivial⟩
    case measure => simp [intOf]; omega
  · obtain rfl : k = t := by omega
    go_wp2_with fail
    go_ret
    exact ⟨rfl, rfl⟩
set_option maxHeartbeats 800000 in
theorem sMapsOf_c (n : Nat) (w : World) (h1 : 1 ≤ n) (h7 : n ≤ 7) :
    Calls Tryz.prog 60 #[.int .i64 (n : Int)] w fun e w' => e = .returned (.int .i64 (pwN n n : Int)) ∧ w = w' := by
 have hin : inB (n : Int) 1 7 = true := by rw [inB_iff]; omega
 have K := l1In_c (n : Int) 1 7 w
 rw [hin] at K
 go_enter Tryz.func60, Tryz.ntmps60
 go_wp2_with (go_at_call 129; with_reducible refine K.mono ?_; rintro e w' ⟨rfl, rfl⟩)
 refine (sPower_c n n _ h7 h7).mono ?_
 rintro e w3 ⟨rfl, rfl⟩
 go_wp2_with fail
 go_ret
 exact ⟨rfl, rfl⟩
end
section
open Go.RowKit
set_option maxRecDepth 100000 in
set_option maxHeartbeats 1600000 in
theorem highOf_c {f : List Nat} (hf : MapN f) (A : Option Addr) (c : Nat) (w : World) (h : Rd w w.heap.size A f.length c (ints f)) :
    Calls Tryz.prog 176 #[.slice A f.length c] w fun e w' => e = .returned (.int .i64 (hiK f f.length : Int)) ∧ Below w.heap.size w w' := by
 have hcp := h.cap
 have hmx := h.max
 unfold maxLen at hmx
 have h7 := hf.le7
 have h1 := hf.pos
 have hs := mapOk_ints hf
 have K1 := mapOk_c _ _ _ _ _ h
 rw [hs] at K1
 go_enter Tryz.func176, Tryz.ntmps176
 go_wp2_with (go_at_call 68; with_reducible refine K1.mono ?_; rintro e w' ⟨rfl, rfl⟩)
 go_loopw [3, 11] (fun v i wr => ∃ (k : Nat), k ≤ f.length ∧ i = .int .i64 k ∧ v = .int .i64 (hkI f k) ∧ Below w.heap.size w wr) (fun _ i _ => f.length - (intOf i).toNat)
 case atStart => exact ⟨0, Nat.zero_le _, rfl, rfl, Below.refl _ _⟩
 case round =>
  obtain ⟨k, hk, rfl, rfl, hbw⟩ := hrel
  have hrd := h.up hbw
  by_cases hlt : k < f.length
  · have K2 := tailOf_c A f.length c (ints f) (k : Int) wr hrd
    rw [tailI_ok hf hlt] at K2
    have hm := hkI_max f k
    have hm' := hkI_max' f k
    obtain ⟨y1, hy1⟩ : ∃ y, hkI f (k + 1) = y := ⟨_, rfl⟩
    rw [hy1] at hm hm'
    have HY := Lib.hid hy1
    clear hy1
    generalize hkI f k = y0 at *
    generalize tl f k = t0 at *
    have hk1 : (k : Int) < (f.length : Int) := by omega
    go_wp2_with fail
    refine K2.mono ?_
    rintro e w3 ⟨rfl, hb3⟩
    have hB3 := bt hbw hb3
    go_wp2_with fail
    go_roundw
    case rel => exact ⟨k + 1, by omega, by go_num, by rw [HY.out], hB3⟩
    case measure => simp [intOf]; omega
  · obtain rfl : k = f.length := by omega
    go_wp2_with fail
    go_ret
    exact ⟨intEnd (hkI_pos h1), hbw⟩
set_option maxHeartbeats 800000 in
theorem indexOf_c {f : List Nat} (hf : MapN f) (A : Option Addr) (c : Nat) (w : World) (h : Rd w w.heap.size A f.length c (ints f)) :
    Calls Tryz.prog 146 #[.slice A f.length c] w fun e w' => e = .returned (.int .i64 (idxN f : Int)) ∧ Below w.heap.size w w' := by
 have hs := mapOk_ints hf
 have K1 := mapOk_c _ _ _ _ _ h
 rw [hs] at K1
 have K2 := highOf_c hf A c w h
 have hm : max (hiK f f.length : Int) 1 = (idxN f : Int) := by unfold idxN; omega
 have hm' : max 1 (hiK f f.length : Int) = (idxN f : Int) := by unfold idxN; omega
 generalize hiK f f.length = y at *
 generalize idxN f = z at *
 go_enter Tryz.func146, Tryz.ntmps146
 go_wp2_with (go_at_call 68; with_reducible refine K1.mono ?_; rintro e w' ⟨rfl, rfl⟩)
 refine K2.mono ?_
 rintro e w3 ⟨rfl, hb3⟩
 go_wp2_with fail
 go_ret
 exact ⟨rfl, hb3⟩
set_option maxHeartbeats 1600000 in
theorem divisor_c (a b : Nat) (w : World) (ha : 1 ≤ a) (hb : 1 ≤ b) (ha9 : a ≤ 1000) (hb9 : b ≤ 1000) :
    Calls Tryz.prog 178 #[.int .i64 (a : Int), .int .i64 (b : Int)] w fun e w' => e = .returned (.int .i64 (Nat.gcd a b : Int)) ∧ ∃ m, w' = w.drewN m := by
 go_enter Tryz.func178, Tryz.ntmps178
 go_wp2_with fail
 go_loopw [0, 1] (fun x y wr => ∃ n m q : Nat, x = .int .i64 (n : Int) ∧ y = .int .i64 (m : Int) ∧ Nat.gcd n m = Nat.gcd a b ∧ n ≤ 1000 ∧ m ≤ 1000 ∧ wr = w.drewN q) (fun _ y _ => (intOf y).toNat)
 case atStart => exact ⟨a, b, 0, rfl, rfl, rfl, ha9, hb9, rfl⟩
 case round =>
  obtain ⟨n, m, q, rfl, rfl, hgc, hn, hm, rfl⟩ := hrel
  by_cases h0 : 0 < m
  · obtain ⟨r, hr⟩ : ∃ r : Nat, n % m = r := ⟨_, rfl⟩
    have hrl : r < m := by rw [← hr]; exact Nat.mod_lt _ h0
    have hri : (n : Int) % (m : Int) = (r : Int) := by rw [← hr]; exact (Int.natCast_emod n m).symm
    have hrt : (n : Int).tmod (m : Int) = (r : Int) := by rw [Int.tmod_eq_emod_of_nonneg (by omega)]; exact hri
    have HN : Hid (Nat.gcd m r = Nat.gcd a b) := Lib.hid (by rw [← hgc, ← hr, Nat.gcd_comm n m, Nat.gcd_rec m n, Nat.gcd_comm])
    have h0n : ¬ (m : Int) = 0 := by omega
    have h0z : ((m : Int) = 0) = False := by simp; omega
    have h0q : ((m : Int) == 0) = false := by rw [beq_eq_false_iff_ne]; exact h0n
    have h0b : ((m : Int) != 0) = true := by simp; omega
    clear hgc hr
    go_wp2_with fail
    go_quiet (fail)
    go_wp2_with fail
    go_roundw
    case rel => exact ⟨m, r, _, rfl, by first | rfl | go_num, HN.out, by omega, by omega, World.drewN_drewN ..⟩
    case measure => simp [intOf]; omega
  · obtain rfl : m = 0 := by omega
    rw [Nat.gcd_zero_right] at hgc
    go_wp2_with fail
    go_ret
    exact ⟨intEnd (by rw [hgc]), q, rfl⟩
set_option maxHeartbeats 1600000 in
theorem fold_c (p l g : Nat) (w : World) (hp : 1 ≤ p) (hl : 1 ≤ l) (hp9 : p ≤ 1000) (hl9 : l ≤ 1000) (hc : w.cell? ⟨g, 0, none⟩ = some (.int .i64 (p : Int))) (hfz : w.frozen? ⟨g, 0, none⟩ = false) :
    Calls Tryz.prog 177 #[.int .i64 (l : Int), .pointer (some ⟨g, 0, none⟩)] w fun e w' => e = .returned (.tuple #[]) ∧ ∃ m, w' = (w.drewN m).setCell ⟨g, 0, none⟩ (.int .i64 (Nat.lcm p l : Int)) := by
 have hlc := lcm_div (a := p) (b := l) hp
 have KD := fun W => divisor_c p l W hp hl hp9 hl9
 have hg1 : 1 ≤ Nat.gcd p l := Nat.gcd_pos_of_pos_left l hp
 generalize Nat.gcd p l = d at *
 obtain ⟨q, hq⟩ : ∃ q : Nat, p / d = q := ⟨_, rfl⟩
 rw [hq] at hlc
 have hqa : q ≤ p := by rw [← hq]; exact Nat.div_le_self _ _
 have hqi : (p : Int) / (d : Int) = (q : Int) := by rw [← hq]; exact (Int.natCast_ediv p d).symm
 have hqt : (p : Int).tdiv (d : Int) = (q : Int) := by rw [Int.tdiv_eq_ediv_of_nonneg (by omega)]; exact hqi
 have hm9 : q * l ≤ 1000 * 1000 := Nat.mul_le_mul (by omega) hl9
 have hwq : IntKind.i64.wrap (q : Int) = (q : Int) := IntWalk.i64_in _ (by omega)
 have hwr : IntKind.i64.wrap ((q : Int) * (l : Int)) = ((q * l : Nat) : Int) := by
  rw [show (q : Int) * (l : Int) = ((q * l : Nat) : Int) by simp]
  exact IntWalk.i64_in _ (by omega)
 have hg0 : ¬ (d : Int) = 0 := by omega
 have hg0z : ((d : Int) = 0) = False := by simp; omega
 have hgq : ((d : Int) == 0) = false := by rw [beq_eq_false_iff_ne]; exact hg0
 rw [← hlc]
 have hc0 : w.drew.cell? ⟨g, 0, none⟩ = some (.int .i64 (p : Int)) := hc
 clear hlc hq
 go_enter Tryz.func177, Tryz.ntmps177
 go_wp2_with fail
 go_region_with ((go_at_call 178; refine (KD _).mono ?_; rintro e w' ⟨rfl, m, rfl⟩; have hcm : (w.drew.drewN m).cell? ⟨g, 0, none⟩ = some (.int .i64 (p : Int)) := hc; have hfm : (w.drew.drewN m).frozen? ⟨g, 0, none⟩ = false := hfz))
 all_goals
  go_wp2_with fail
  go_end0
  exact ⟨rfl, _, rfl⟩
set_option maxRecDepth 100000 in
set_option maxHeartbeats 1600000 in
theorem periodOf_c {f : List Nat} (hf : MapN f) (A : Option Addr) (c : Nat) (w : World) (h : Rd w w.heap.size A f.length c (ints f)) :
    Calls Tryz.prog 147 #[.slice A f.length c] w fun e w' => e = .returned (.int .i64 (perN f : Int)) ∧ Below w.heap.size w w' := by
 have hs := mapOk_ints hf
 have h7 := hf.le7
 have K1 := mapOk_c _ _ _ _ _ h
 rw [hs] at K1
 have hb1 := below_new w (.cells #[.int .i64 1] 3)
 have h1 := h.up hb1
 have K2 := loopsOf_c A f.length c (ints f) _ h1
 unfold Rows at K2
 rw [loopsI_ok hf] at K2
 have hfit := loopsN_fit hf
 have hll := loopsN_len f
 have HP : Hid (perN f = perK (loopsN f) (loopsN f).length) := Lib.hid rfl
 generalize loopsN f = xss at *
 have HPK : Hid (∀ k, k < xss.length → perK xss (k + 1) = Nat.lcm (perK xss k) (gR xss k).length) := Lib.hid (fun k _ => rfl)
 have HPL : Hid (∀ k, k ≤ xss.length → 1 ≤ perK xss k ∧ perK xss k ≤ 420) := Lib.hid (fun k hk => perK_le hfit hk)
 have HF := Lib.hid hfit
 have hc1 : (w.alloc (.cells #[.int .i64 1] 3)).cell? ⟨w.heap.size, 0, none⟩ = some (.int .i64 1) := by simp
 have hf1 : (w.alloc (.cells #[.int .i64 1] 3)).frozen? ⟨w.heap.size, 0, none⟩ = false := (Boxed.new w 3 (.int .i64 1)).frozen
 have hz1 : (w.alloc (.cells #[.int .i64 1] 3)).heap.size = w.heap.size + 1 := by simp
 clear hfit
 go_enter Tryz.func147, Tryz.ntmps147
 go_wp2_with (go_at_call 68; with_reducible refine K1.mono ?_; rintro e w' ⟨rfl, rfl⟩)
 generalize w.alloc (.cells #[.int .i64 1] 3) = w1 at *
 refine K2.mono ?_
 rintro e w3 ⟨v, rfl, hO3, hb3⟩
 have hB3 := bt hb1 hb3
 obtain ⟨N, hN⟩ : ∃ N, xss.length = N := ⟨_, rfl⟩
 obtain ⟨A3, c3, rfl, hR3⟩ := hO3.form
 rw [hN] at hR3 hll hO3
 have hc3 := hR3.cap
 have hzz := hb3.size
 have hcw : w3.cell? ⟨w.heap.size, 0, none⟩ = some (.int .i64 (perK xss 0 : Int)) := (hb3.cell (p := ⟨w.heap.size, 0, none⟩) (by show w.heap.size < w1.heap.size; omega)).trans hc1
 have hfw : w3.frozen? ⟨w.heap.size, 0, none⟩ = false := (hb3.frozen (p := ⟨w.heap.size, 0, none⟩) (by show w.heap.size < w1.heap.size; omega)).trans hf1
 clear K1 K2 hR3 hb3 hc1 hf1 h1
 go_wp2_with fail
 go_loopw [14] (fun i wr => ∃ k : Nat, k ≤ N ∧ i = .int .i64 (k : Int) ∧ wr.cell? ⟨w.heap.size, 0, none⟩ = some (.int .i64 (perK xss k : Int)) ∧ wr.frozen? ⟨w.heap.size, 0, none⟩ = false ∧ OwnRR wr w1.heap.size (.slice A3 N c3) xss ∧ Below w.heap.size w wr ∧ w.heap.size < wr.heap.size) (fun i _ => N - (intOf i).toNat)
 case atStart => exact ⟨0, Nat.zero_le _, rfl, hcw, hfw, hO3, hB3, by omega⟩
 case round =>
  clear hcw hfw hO3 hB3
  obtain ⟨k, hk, rfl, hcw, hfw, hO, hbw, hzw⟩ := hrel
  by_cases hlt : k < N
  · obtain ⟨A9, c9, e9, hR9⟩ := hO.form
    rw [hN] at e9 hR9
    cases e9
    obtain ⟨b, off, A', n', c', rfl, hb, hcell, hrow⟩ := hR9.at_ hlt
    have hn' := hrow.lenN
    have hfk := HF.out k (by omega)
    have hpk := HPL.out k (by omega)
    have hst := HPK.out k (by omega)
    rw [hn'] at hfk hst
    have HS := Lib.hid hst
    clear hst hR9
    have K4 := fold_c (perK xss k) n' w.heap.size wr hpk.1 hfk.1 (by omega) (by omega) hcw hfw
    rw [← HS.out] at K4
    have hk0 : (0 : Int) ≤ (k : Int) := Int.natCast_nonneg _
    have hk1 : (k : Int) < (N : Int) := by omega
    have HO := Lib.hid hO
    clear hO
    go_wp2_with fail
    refine K4.mono ?_
    rintro e w4 ⟨rfl, m, rfl⟩
    have hch : Chg w.heap.size (w.heap.size + 1) wr ((wr.drewN m).setCell ⟨w.heap.size, 0, none⟩ (.int .i64 (perK xss (k + 1) : Int))) :=
     ((Chg.refl _ _ wr).drewN m).setCell (p := ⟨w.heap.size, 0, none⟩) (Nat.le_refl _) (Nat.lt_succ_self _) _
    have hO4 := HO.out.chg hch (by omega)
    have hB4 := hbw.trans (hch.belowLo (B := w.heap.size) (Nat.le_refl _) (by omega))
    have hz4 := hch.size
    have hc4 : ((wr.drewN m).setCell ⟨w.heap.size, 0, none⟩ (.int .i64 (perK xss (k + 1) : Int))).cell? ⟨w.heap.size, 0, none⟩ = some (.int .i64 (perK xss (k + 1) : Int)) := World.cell?_setCell_same _ _ _ (show (wr.drewN m).cell? ⟨w.heap.size, 0, none⟩ = some (.int .i64 (perK xss k : Int)) from hcw)
    have hf4 : ((wr.drewN m).setCell ⟨w.heap.size, 0, none⟩ (.int .i64 (perK xss (k + 1) : Int))).frozen? ⟨w.heap.size, 0, none⟩ = false := by rw [World.frozen?_setCell]; exact hfw
    clear hch K4
    go_wp2_with fail
    go_roundw
    case rel => exact ⟨k + 1, by omega, by go_num, hc4, hf4, hO4, hB4, by omega⟩
    case measure => simp [intOf]; omega
  · obtain rfl : k = N := by omega
    have HE : Hid ((perK xss k : Int) = (perN f : Int)) := Lib.hid (by rw [HP.out, hN])
    go_wp2_with fail
    go_ret
    exact ⟨intEnd HE.out, hbw⟩
theorem poweredN1_c (n p : Nat) (each : Int) (B : Nat) (w : World) (hc : w.cell? ⟨B, 0, none⟩ = some (.int .i64 (n : Int))) (hp : p ≤ 1000000000) (hn : n ≤ 100) :
    Calls Tryz.prog 222 #[.int .i64 (p : Int), .int .i64 each, .pointer (some ⟨B, 0, none⟩)] w fun e w' => e = .returned (.int .i64 ((p * n : Nat) : Int)) ∧ w = w' := by
 have hw := mulN_fit hp hn
 go_enter Tryz.func222, Tryz.ntmps222
 go_wp2_with fail
 go_ret
 exact ⟨intEnd (by first | rfl | exact hw | simp), rfl⟩
set_option maxHeartbeats 800000 in
theorem foldedN_c (n last : Nat) (B : Nat) (w : World) (hc : w.cell? ⟨B, 0, none⟩ = some (.int .i64 (n : Int))) (hn : n ≤ 7) (hl : last ≤ 7) :
    Calls Tryz.prog 221 #[.int .i64 (last : Int), .int .i64 1, .func (.func 222) #[] #[.pointer (some ⟨B, 0, none⟩)]] w fun e w' => e = .returned (.int .i64 ((pwN n last : Nat) : Int)) ∧ w = w' := by
 go_enter Tryz.func221, Tryz.ntmps221
 go_wp2_with fail
 go_loop [1, 7] (fun p i => ∃ k : Nat, k ≤ last ∧ i = .int .i64 ((k + 1 : Nat) : Int) ∧ p = .int .i64 ((pwN n k : Nat) : Int)) (fun _ i => last + 1 - (intOf i).toNat)
 case atStart => exact ⟨0, Nat.zero_le _, rfl, rfl⟩
 case round =>
  obtain ⟨k, hk, rfl, rfl⟩ := hrel
  have hp := pwN_le (n := n) (k := k) hn (by omega)
  have HS : Hid (pwN n k * n = pwN n (k + 1)) := pwN_succ n k
  by_cases hlt : k < last
  · have hdl : decide (((k + 1 : Nat) : Int) ≤ (last : Int)) = true := decide_eq_true (by omega)
    have hdl2 : decide ((k : Int) + 1 ≤ (last : Int)) = true := decide_eq_true (by omega)
    generalize pwN n k = p at *
    go_wp2_with fail
    refine (poweredN1_c n p _ B _ hc (by omega) (by omega)).mono ?_
    rintro e w' ⟨rfl, rfl⟩
    rw [HS.out]
    go_wp2_with fail
    go_round
    case rel => exact ⟨k + 1, by omega, by go_num, rfl⟩
    case measure => simp [intOf]; omega
  · obtain rfl : k = last := by omega
    have hdl : decide (((k + 1 : Nat) : Int) ≤ (k : Int)) = false := decide_eq_false (by omega)
    have hdl2 : decide ((k : Int) + 1 ≤ (k : Int)) = false := decide_eq_false (by omega)
    go_wp2_with fail
    go_ret
    exact ⟨intEnd rfl, rfl⟩
set_option maxHeartbeats 800000 in
theorem poweredN_c (n t : Nat) (w : World) (hn : n ≤ 7) (ht : t ≤ 7) :
    Calls Tryz.prog 190 #[.int .i64 (n : Int), .int .i64 (t : Int)] w fun e w' => e = .returned (.int .i64 ((pwN n t : Nat) : Int)) ∧ Below w.heap.size w w' := by
 have hb : Below w.heap.size w (w.alloc (.cells #[.int .i64 (n : Int)] 3)) := (Below.refl _ _).alloc (Nat.le_refl _) _
 have hc : (w.alloc (.cells #[.int .i64 (n : Int)] 3)).cell? ⟨w.heap.size, 0, none⟩ = some (.int .i64 (n : Int)) := by simp
 go_enter Tryz.func190, Tryz.ntmps190
 go_wp2_with fail
 generalize w.alloc (.cells #[.int .i64 (n : Int)] 3) = w1 at *
 refine (foldedN_c n t w.heap.size _ hc hn ht).mono ?_
 rintro e w' ⟨rfl, rfl⟩
 go_wp2_with fail
 go_ret
 exact ⟨rfl, hb⟩
set_option maxHeartbeats 800000 in
theorem mapsOf_c (n : Nat) (w : World) (h1 : 1 ≤ n) (h7 : n ≤ 7) :
    Calls Tryz.prog 154 #[.int .i64 (n : Int)] w fun e w' => e = .returned (.int .i64 (pwN n n : Int)) ∧ Below w.heap.size w w' := by
 have hin : inB (n : Int) 1 7 = true := by rw [inB_iff]; omega
 have K := within_c (n : Int) 1 7 w
 rw [hin] at K
 go_enter Tryz.func154, Tryz.ntmps154
 go_wp2_with (go_at_call 89; with_reducible refine K.mono ?_; rintro e w' ⟨rfl, rfl⟩)
 refine (poweredN_c n n _ h7 h7).mono ?_
 rintro e w3 ⟨rfl, hb3⟩
 go_wp2_with fail
 go_ret
 exact ⟨rfl, hb3⟩
end
end Go.Proofs.YtoinlkdmfclnbaaGreatDoor
