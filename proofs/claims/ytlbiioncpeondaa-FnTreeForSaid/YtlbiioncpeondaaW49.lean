/- Walks: powered, falling, OnLoopsOf of one, TreesOf (impl); the law FnTreeFor. -/
import Derived.Test.YtlbiioncpeondaaW46
import Derived.Test.YtlbiioncpeondaaM13
namespace Go.Proofs.Ytlbiioncpeondaa
set_option linter.unusedVariables false
open Go.RowKit

theorem pow7 {n k : Nat} (hn : n ≤ 7) (hk : k ≤ 6) : n ^ k ≤ 117649 := by
  have h1 : n ^ k ≤ 7 ^ k := Nat.pow_le_pow_left hn k
  have h2 : 7 ^ k ≤ 7 ^ 6 := Nat.pow_le_pow_right (by omega) hk
  have h3 : (7 : Nat) ^ 6 = 117649 := by decide
  omega
/-- the power, behind a name -/
def pw (n k : Nat) : Nat := n ^ k
theorem pw_le {n k : Nat} (hn : n ≤ 7) (hk : k ≤ 6) : pw n k ≤ 117649 := pow7 hn hk
theorem pw_succ (n k : Nat) : pw n k * n = pw n (k + 1) := (Nat.pow_succ ..).symm
theorem pw_zero (n : Nat) : pw n 0 = 1 := rfl
theorem mul_fit {p n : Nat} (hp : p ≤ 1000000000) (hn : n ≤ 100) : IntKind.i64.wrap ((p : Int) * (n : Int)) = ((p * n : Nat) : Int) := by
  have h : p * n ≤ 1000000000 * 100 := Nat.mul_le_mul hp hn
  rw [show (p : Int) * (n : Int) = ((p * n : Nat) : Int) by simp]
  exact IntWalk.i64_in _ (by omega)
theorem powered1_c (n p : Nat) (each : Int) (B : Nat) (w : World) (hc : w.cell? ⟨B, 0, none⟩ = some (.int .i64 (n : Int))) (hp : p ≤ 1000000000) (hn : n ≤ 100) :
    Calls Try.prog 111 #[.int .i64 (p : Int), .int .i64 each, .pointer (some ⟨B, 0, none⟩)] w fun e w' => e = .returned (.int .i64 ((p * n : Nat) : Int)) ∧ w = w' := by
  have hw := mul_fit hp hn
  go_enter Try.func111, Try.ntmps111
  go_wp2_with fail
  go_ret
  exact ⟨intEnd (by first | rfl | exact hw | simp), rfl⟩
set_option maxHeartbeats 800000 in
theorem foldedP_c (n last : Nat) (B : Nat) (w : World) (hc : w.cell? ⟨B, 0, none⟩ = some (.int .i64 (n : Int))) (hn : n ≤ 7) (hl : last ≤ 6) :
    Calls Try.prog 109 #[.int .i64 (last : Int), .int .i64 1, .func (.func 111) #[] #[.pointer (some ⟨B, 0, none⟩)]] w fun e w' => e = .returned (.int .i64 ((pw n last : Nat) : Int)) ∧ w = w' := by
  go_enter Try.func109, Try.ntmps109
  go_wp2_with fail
  go_loop [1, 7] (fun p i => ∃ k : Nat, k ≤ last ∧ i = .int .i64 ((k + 1 : Nat) : Int) ∧ p = .int .i64 ((pw n k : Nat) : Int)) (fun _ i => last + 1 - (intOf i).toNat)
  case atStart => exact ⟨0, Nat.zero_le _, rfl, rfl⟩
  case round =>
    obtain ⟨k, hk, rfl, rfl⟩ := hrel
    have hp := pw_le (n := n) (k := k) hn (by omega)
    have HS : Hid (pw n k * n = pw n (k + 1)) := pw_succ n k
    by_cases hlt : k < last
    · have hdl : decide (((k + 1 : Nat) : Int) ≤ (last : Int)) = true := decide_eq_true (by omega)
      have hdl2 : decide ((k : Int) + 1 ≤ (last : Int)) = true := decide_eq_true (by omega)
      generalize pw n k = p at *
      go_wp2_with fail
      refine (powered1_c n p _ B _ hc (by omega) (by omega)).mono ?_
      rintro e w' ⟨rfl, rfl⟩
      rw [HS.out]
      go_wp2_with fail
      go_round
      case rel => exact ⟨k + 1, by omega, by go_num, rfl⟩
      case measure => simp [intOf]; omega
    · obtain rfl : k = last := by omega
      have hdl : decide (((k + 1 : Nat) : Int) ≤ (k : Int)) = false := decide_eq_false (by omega)
      have hdl2 : decide ((k : Int) + 1 ≤ (k : Int)) = false := decide_eq_false (by omega)
      go_wp2_with fail
      go_ret
      exact ⟨intEnd rfl, rfl⟩
set_option maxHeartbeats 400000 in
theorem powered_c (n t : Nat) (w : World) (hn : n ≤ 7) (ht : t ≤ 6) :
    Calls Try.prog 99 #[.int .i64 (n : Int), .int .i64 (t : Int)] w fun e w' => e = .returned (.int .i64 ((pw n t : Nat) : Int)) ∧ Below w.heap.size w w' := by
  have hb : Below w.heap.size w (w.alloc (.cells #[.int .i64 (n : Int)] 3)) := (Below.refl _ _).alloc (Nat.le_refl _) _
  have hc : (w.alloc (.cells #[.int .i64 (n : Int)] 3)).cell? ⟨w.heap.size, 0, none⟩ = some (.int .i64 (n : Int)) := by simp
  go_enter Try.func99, Try.ntmps99
  go_wp2_with fail
  generalize w.alloc (.cells #[.int .i64 (n : Int)] 3) = w1 at *
  refine (foldedP_c n t w.heap.size _ hc hn ht).mono ?_
  rintro e w' ⟨rfl, rfl⟩
  go_wp2_with fail
  go_ret
  exact ⟨rfl, hb⟩
theorem falling1_c (n : Nat) (B : Nat) (w : World) (hc : w.cell? ⟨B, 0, none⟩ = some (.int .i64 (n : Int))) (hn : n ≤ 100) :
    Calls Try.prog 110 #[.int .i64 1, .int .i64 1, .pointer (some ⟨B, 0, none⟩)] w fun e w' => e = .returned (.int .i64 (n : Int)) ∧ w = w' := by
  have hw1 : IntKind.i64.wrap (n : Int) = (n : Int) := IntWalk.i64_in _ (by omega)
  have hw2 : IntKind.i64.wrap ((n : Int) - 1 + 1) = (n : Int) := by rw [show (n : Int) - 1 + 1 = (n : Int) by omega]; exact hw1
  have hw3 : IntKind.i64.wrap (1 * (n : Int)) = (n : Int) := by rw [Int.one_mul]; exact hw1
  go_enter Try.func110, Try.ntmps110
  go_wp2_with fail
  go_ret
  exact ⟨intEnd (by first | rfl | exact hw1 | simp), rfl⟩
set_option maxHeartbeats 800000 in
theorem falling_c (n : Nat) (w : World) (hn : n ≤ 7) :
    Calls Try.prog 98 #[.int .i64 (n : Int), .int .i64 1] w fun e w' => e = .returned (.int .i64 (n : Int)) ∧ Below w.heap.size w w' := by
  have hb : Below w.heap.size w (w.alloc (.cells #[.int .i64 (n : Int)] 3)) := (Below.refl _ _).alloc (Nat.le_refl _) _
  have hc : (w.alloc (.cells #[.int .i64 (n : Int)] 3)).cell? ⟨w.heap.size, 0, none⟩ = some (.int .i64 (n : Int)) := by simp
  go_enter Try.func98, Try.ntmps98
  go_wp2_with fail
  generalize w.alloc (.cells #[.int .i64 (n : Int)] 3) = w1 at *
  go_in
  go_wp2_with fail
  refine wp_loop_rounds 2 ?_
  rw [rounds_succ]
  go_wp2_with fail
  refine (falling1_c n w.heap.size _ hc (by omega)).mono ?_
  rintro e w' ⟨rfl, rfl⟩
  go_wp2_with fail
  rw [rounds_succ]
  go_wp2_with fail
  go_ret
  exact ⟨rfl, hb⟩
set_option maxHeartbeats 800000 in
theorem onLoopsOf_c (k : Nat) (w : World) (hk : k ≤ 6) :
    Calls Try.prog 80 #[.int .i64 ((k + 1 : Nat) : Int), .int .i64 1] w fun e w' => e = .returned (.int .i64 ((pw (k + 1) k : Nat) : Int)) ∧ Below w.heap.size w w' := by
  have hin : inB ((k + 1 : Nat) : Int) 1 7 = true := by rw [inB_iff]; omega
  have hin2 : inB 1 1 ((k + 1 : Nat) : Int) = true := by rw [inB_iff]; omega
  have hp := pw_le (n := k + 1) (k := k) (by omega) hk
  obtain ⟨n, hn⟩ : ∃ n, n = k + 1 := ⟨_, rfl⟩
  rw [← hn] at hin hin2 hp ⊢
  have hn7 : n ≤ 7 := by omega
  have hn1 : 1 ≤ n := by omega
  have hw0 : IntKind.i64.wrap (n : Int) = (n : Int) := IntWalk.i64_in _ (by omega)
  have hw1 : IntKind.i64.wrap ((n : Int) * 1) = (n : Int) := by rw [Int.mul_one]; exact hw0
  have hw2 : IntKind.i64.wrap ((n : Int) - 1) = (k : Int) := by rw [show (n : Int) - 1 = (k : Int) by omega]; exact IntWalk.i64_in _ (by omega)
  obtain ⟨p, hpe⟩ : ∃ p, p = pw n k := ⟨_, rfl⟩
  rw [← hpe] at hp ⊢
  have hw3 : IntKind.i64.wrap ((n : Int) * (p : Int)) = ((p * n : Nat) : Int) := by rw [Int.mul_comm]; exact mul_fit (by omega) (by omega)
  have hdv : ((p * n : Nat) : Int).tdiv (n : Int) = (p : Int) := by
    rw [Int.tdiv_eq_ediv_of_nonneg (by omega)]
    have : p * n / n = p := Nat.mul_div_cancel _ (by omega)
    exact_mod_cast this
  have hz : ((n : Int) == 0) = false := by rw [beq_eq_false_iff_ne]; omega
  have hz2 : ((n : Int) = 0) = False := by simp; omega
  have hw4 : IntKind.i64.wrap (p : Int) = (p : Int) := IntWalk.i64_in _ (by omega)
  have HP := Lib.hid hpe
  clear hpe hn
  go_enter Try.func80, Try.ntmps80
  go_wp2_with (go_at_call 71; refine (within_c _ _ _ _).mono ?_; rintro e w' ⟨rfl, rfl⟩)
  refine (falling_c n _ hn7).mono ?_
  rintro e w1 ⟨rfl, hb1⟩
  go_wp2_with fail
  refine (powered_c n k _ hn7 hk).mono ?_
  rintro e w2 ⟨rfl, hb2⟩
  rw [← HP.out]
  go_wp2_with fail
  go_ret
  exact ⟨intEnd (by rw [show (p : Int) * (n : Int) = ((p * n : Nat) : Int) by simp, hdv]; first | exact hw4 | (unfold wrap64; omega) | simp [wrap64]; omega), bt hb1 hb2⟩
set_option maxHeartbeats 400000 in
theorem treesOf_c (k : Nat) (w : World) (hk : k ≤ 6) :
    Calls Try.prog 49 #[.int .i64 ((k + 1 : Nat) : Int)] w fun e w' => e = .returned (.int .i64 ((pw (k + 1) k : Nat) : Int)) ∧ Below w.heap.size w w' := by
  go_enter Try.func49, Try.ntmps49
  go_wp2_with fail
  refine (onLoopsOf_c k _ hk).mono ?_
  rintro e w1 ⟨rfl, hb1⟩
  go_wp2_with fail
  go_ret
  exact ⟨intEnd rfl, hb1⟩

set_option maxRecDepth 100000 in
set_option maxHeartbeats 1600000 in
theorem walk_FnTreeFor (A : Option Addr) (n c : Nat) (bs : List Nat) (w : World) (h : RdB w w.heap.size A n c bs) :
    Calls Try.prog 11 #[.slice A n c] w fun e w' => e = .returned (.bool true) ∧ Below w.heap.size w w' := by
  have hcc := h.cap
  have hmm := h.max
  unfold maxLen at hmm
  by_cases hbig : 1048576 < n
  · go_enter Try.func11, Try.ntmps11
    go_wp2_with fail
    go_ret
    exact ⟨rfl, Below.refl _ _⟩
  go_enter Try.func11, Try.ntmps11
  go_wp2_with fail
  refine (drawTreeFor_c A n c bs _ h).mono ?_
  rintro e w1 ⟨A', n', c', xs, rfl, hO, hb⟩
  have hrd := hO.rd
  have hl := hO.len
  have hself := eqB_self (treeI xs)
  clear hO
  rcases hs : codedOk xs with _ | _
  · have hcf := treeI_no hs
    go_wp2_with fail
    refine (treeFor_c _ _ _ _ _ hrd).mono ?_
    rintro e w2 ⟨A2, n2, c2, rfl, hO2, hb2⟩
    rw [hs]
    have hrd2 := hrd.up hb2
    have hB2 := bt hb hb2
    go_wp2_with fail
    refine (sTreeFor_c _ _ _ _ _ hrd2).mono ?_
    rintro e w3 ⟨A3, n3, c3, rfl, hO3, hb3⟩
    rw [hs]
    have hr3 := hO2.rd.up hb3
    have hr4 := hO3.rd
    have hB3 := bt hB2 hb3
    have hl2 := hO2.len
    rw [hcf] at hl2
    obtain rfl : n2 = 0 := by simpa using hl2.symm
    clear hrd hrd2 hB2 hb hb2 hb3 hO2 hO3 hcf hl2
    go_wp2_with fail
    refine (sameInts_c _ _ _ _ _ _ _ _ _ hr3 hr4).mono ?_
    rintro e w4 ⟨rfl, m, rfl⟩
    rw [hself]
    go_wp2_with (go_at_call 22; refine (alive_c _).mono ?_; rintro e w5 ⟨rfl, hb5⟩)
    go_ret
    exact ⟨rfl, bt (bd hB3 m) hb5⟩
  · obtain ⟨c1, rfl, hc⟩ := codedOk_ex hs
    obtain rfl : c1.length = n' := by rw [← hl, ints_len]
    have h6 := hc.le6
    have hT := treeN_tree hc
    have hto := treeOkI_tree hT
    have hco := codeI_ok hto
    rw [codeN_treeN hc] at hco
    have hti := treeI_ok hc
    rw [hti] at hself
    clear hl
    go_wp2_with fail
    refine (treeFor_c _ _ _ _ _ hrd).mono ?_
    rintro e w2 ⟨A2, n2, c2, rfl, hO2, hb2⟩
    rw [hs]
    rw [hti] at hO2
    have hrd2 := hrd.up hb2
    have hB2 := bt hb hb2
    go_wp2_with fail
    refine (sTreeFor_c _ _ _ _ _ hrd2).mono ?_
    rintro e w3 ⟨A3, n3, c3, rfl, hO3, hb3⟩
    rw [hs]
    rw [hti] at hO3
    have hr3 := hO2.rd.up hb3
    have hr4 := hO3.rd
    have hrd3 := hrd2.up hb3
    have hB3 := bt hB2 hb3
    have hl2 := hO2.len
    rw [ints_len, treeN_len] at hl2
    obtain rfl : n2 = c1.length + 1 := hl2.symm
    clear hrd hrd2 hB2 hb hb2 hb3 hO2 hO3 hl2 hs hti
    go_wp2_with fail
    refine (sameInts_c _ _ _ _ _ _ _ _ _ hr3 hr4).mono ?_
    rintro e w4 ⟨rfl, m, rfl⟩
    rw [hself]
    have hr5 := hr3.dn m
    have hrd5 := hrd3.dn m
    have hB5 := bd hB3 m
    generalize w3.drewN m = w5 at hr5 hrd5 hB5 ⊢
    clear hr3 hr4 hrd3 hB3 hself
    have hcp := hrd5.cap
    have hmx := hrd5.max
    unfold maxLen at hmx
    go_wp2_with fail
    go_loopw [8, 9] (fun r i wr => ∃ k : Nat, k ≤ c1.length ∧ i = .int .i64 k ∧ r = .int .i64 ((pw (c1.length + 1) k : Nat) : Int) ∧ wr = w5) (fun r i _ => c1.length - (intOf i).toNat)
    case atStart => exact ⟨0, Nat.zero_le _, rfl, rfl, rfl⟩
    case round =>
      obtain ⟨k, hk, rfl, rfl, rfl⟩ := hrel
      by_cases hlt : k < c1.length
      · have hp := pw_le (n := c1.length + 1) (k := k) (by omega) (by omega)
        have HS := Lib.hid (pw_succ (c1.length + 1) k)
        obtain ⟨L, hL⟩ : ∃ L, L = c1.length + 1 := ⟨_, rfl⟩
        have hL1 : (L : Int) = (c1.length : Int) + 1 := by omega
        rw [← hL] at hp HS ⊢
        have hw1 : IntKind.i64.wrap (((pw L k : Nat) : Int) * ((c1.length : Int) + 1)) = ((pw L k * L : Nat) : Int) := by rw [← hL1]; exact mul_fit (by omega) (by omega)
        rw [HS.out] at hw1
        have hw2 : ((pw L k : Nat) : Int) * ((c1.length : Int) + 1) = ((pw L (k + 1) : Nat) : Int) := by rw [← hL1, ← HS.out]; simp
        have HW := Lib.hid hw2
        clear hL1 hL hw2
        go_wp2_with fail
        go_roundw
        case rel => exact ⟨k + 1, by omega, by go_num, by first | exact congrArg _ HW.out | rfl, by first | rfl | trivial⟩
        case measure => simp [intOf]; omega
      · obtain rfl : k = c1.length := by omega
        go_wp2_with fail
        refine (codeOf_c _ _ _ _ _ hr5).mono ?_
        rintro e w6 ⟨A6, n6, c6, rfl, hO6, hb6⟩
        rw [hto]
        rw [hco] at hO6
        have hl6 := hO6.len
        rw [ints_len] at hl6
        obtain rfl : n6 = c1.length := hl6.symm
        have hr6 := hr5.up hb6
        have hrd6 := hrd5.up hb6
        have hrc := hO6.rd
        have hB6 := bt hB5 hb6
        clear hr5 hrd5 hB5 hb6 hO6 hl6 hco
        go_wp2_with fail
        refine (treeOk_c _ _ _ _ _ hr6).mono ?_
        rintro e w7 ⟨rfl, hb7⟩
        rw [hto]
        have hrd7 := hrd6.up hb7
        have hrc7 := hrc.up hb7
        have hB7 := bt hB6 hb7
        have hself2 := eqB_self (ints c1)
        clear hr6 hrd6 hrc hB6 hb7
        go_wp2_with fail
        refine (sameInts_c _ _ _ _ _ _ _ _ _ hrc7 hrd7).mono ?_
        rintro e w8 ⟨rfl, m8, rfl⟩
        rw [hself2]
        have hB8 := bd hB7 m8
        clear hrd7 hrc7 hB7
        go_wp2_with fail
        refine (treesOf_c _ _ h6).mono ?_
        rintro e w9 ⟨rfl, hb9⟩
        have hqq : (((pw (c1.length + 1) c1.length : Nat) : Int) == ((pw (c1.length + 1) c1.length : Nat) : Int)) = true := by simp
        go_wp2_with fail
        go_ret
        exact ⟨rfl, bt hB8 hb9⟩
end Go.Proofs.Ytlbiioncpeondaa
