/- Walks: the laws FnComesFrom, FnGardenOf, FnClosedOk, FnLedTo (walks). -/
import Derived.Test.YtpbpkdkjjbhjoaaW19
namespace Go.Proofs.Ytpbpkdkjjbhjoaa
set_option linter.unusedVariables false
open Go.RowKit

theorem cfI_at {f : List Nat} {m : Nat} {s : Int} (hf : MapN f) (hm : m < 2 ^ f.length) (hs : s = (m : Int)) : cfI (ints f) s = (cf f m : Int) := by rw [hs]; exact cfI_ok hf hm
theorem ledI_at {f : List Nat} {m : Nat} {s : Int} (hf : MapN f) (hm : m < 2 ^ f.length) (hs : s = (m : Int)) : ledI (ints f) s = (led f m : Int) := by rw [hs]; exact ledI_ok hf hm
set_option maxRecDepth 100000 in
set_option maxHeartbeats 800000 in
theorem walk_FnComesFrom (A : Option Addr) (n c : Nat) (bs : List Nat) (w : World) (h : RdB w w.heap.size A n c bs) :
    Calls Try.prog 10 #[.slice A n c] w fun e w' => e = .returned (.bool true) ∧ Below w.heap.size w w' := by
  have hcc := h.cap
  have hmm := h.max
  unfold maxLen at hmm
  by_cases hbig : 1048576 < n
  · go_enter Try.func10, Try.ntmps10
    go_wp2_with fail
    go_ret
    exact ⟨rfl, Below.refl _ _⟩
  go_enter Try.func10, Try.ntmps10
  go_wp2_with fail
  refine (drawComesFrom_c A n c bs _ h).mono ?_
  rintro e w1 ⟨A', n', c', xs, s, rfl, hO, hD, hb⟩
  have hrd := hO.rd
  have hl := hO.len
  rcases hs : setOk xs s with _ | _
  · have hcf := cfI_no hs
    go_wp2_with (first
      | (go_at_call 42; refine (comesFrom_c _ _ _ _ _ _ hrd).mono ?_; rintro e w' ⟨rfl, rfl⟩)
      | (go_at_call 43; refine (sComesFrom_c _ _ _ _ _ _ hrd).mono ?_; rintro e w' ⟨rfl, rfl⟩)
      | (go_at_call 19; refine (alive_c _).mono ?_; rintro e w2 ⟨rfl, hb2⟩))
    go_ret
    exact ⟨rfl, bt hb hb2⟩
  · obtain ⟨f, m, rfl, rfl, hf, hm⟩ := setOk_ex hs
    have h7 := hf.le7
    obtain rfl : n' = f.length := by rw [← hl, ints_len]
    have h2 := two_le h7
    have hpw : (2 : Int) ^ f.length = ((2 ^ f.length : Nat) : Int) := castPow _
    have hcf := cfI_ok hf hm
    obtain ⟨E, hE⟩ : ∃ E, E = allN f := ⟨_, rfl⟩
    have hE1 : ((2 ^ f.length : Nat) : Int) - 1 = (E : Int) := by rw [hE]; exact allN_cast f
    have hEl : E < 2 ^ f.length := by rw [hE]; exact allN_lt f
    have hmE : m ≤ E := by rw [hE]; unfold allN; omega
    have hcf2 : cfI (ints f) ((E : Int) - (m : Int)) = (cf f (E - m) : Int) := cfI_at hf (by omega) (by omega)
    have hsum : cf f m + cf f (E - m) = E := by rw [hE]; exact cf_sum hf hm
    have hc1 := cf_lt f m
    have hl1 := ledI_ok hf hc1
    have hl2 := ledI_ok hf hEl
    have hl3 := led_lt hf E
    have hlc : led f (cf f m) = m &&& led f E := by rw [hE]; exact led_cf m hm
    obtain ⟨D, hD2⟩ : ∃ D : Nat, D = 2 ^ f.length := ⟨_, rfl⟩
    rw [← hD2] at hpw h2 hE1 hEl hm hc1 hl3
    have hand : bits .and .i64 (m : Int) (led f E : Int) = (led f (cf f m) : Int) := by rw [hlc]; exact bits_and _ _ (by omega) (by omega)
    have hD128 : D ≤ 128 := h2.2
    have hw1 : IntKind.i64.wrap ((D : Int) - 1) = (E : Int) := by rw [hE1]; exact wrapSmall _ (by omega)
    have hw2 : IntKind.i64.wrap ((E : Int) - (m : Int)) = (E : Int) - (m : Int) := IntWalk.i64_in _ (by omega)
    have hw3 : IntKind.i64.wrap ((cf f m : Int) + (cf f (E - m) : Int)) = (E : Int) := by rw [show (cf f m : Int) + (cf f (E - m) : Int) = (E : Int) by omega]; exact wrapSmall _ (by omega)
    clear hD2 h2 hE hlc hsum
    go_wp2_with (first
      | (go_at_call 42; refine (comesFrom_c _ _ _ _ _ _ hrd).mono ?_; rintro e w' ⟨rfl, rfl⟩)
      | (go_at_call 43; refine (sComesFrom_c _ _ _ _ _ _ hrd).mono ?_; rintro e w' ⟨rfl, rfl⟩)
      | (go_at_call 44; refine (ledTo_c _ _ _ _ _ _ hrd).mono ?_; rintro e w' ⟨rfl, rfl⟩))
    go_ret
    exact ⟨rfl, hb⟩

set_option maxRecDepth 100000 in
set_option maxHeartbeats 800000 in
theorem walk_FnGardenOf (A : Option Addr) (n c : Nat) (bs : List Nat) (w : World) (h : RdB w w.heap.size A n c bs) :
    Calls Try.prog 14 #[.slice A n c] w fun e w' => e = .returned (.bool true) ∧ Below w.heap.size w w' := by
  have hcc := h.cap
  have hmm := h.max
  unfold maxLen at hmm
  by_cases hbig : 1048576 < n
  · go_enter Try.func14, Try.ntmps14
    go_wp2_with fail
    go_ret
    exact ⟨rfl, Below.refl _ _⟩
  go_enter Try.func14, Try.ntmps14
  go_wp2_with fail
  refine (drawGardenOf_c A n c bs _ h).mono ?_
  rintro e w1 ⟨A', n', c', xs, rfl, hO, hD, hb⟩
  have hrd := hO.rd
  have hl := hO.len
  rcases hs : mapOk xs with _ | _
  · have hcf := gardenI_no hs
    go_wp2_with fail
    refine (gardenOf_c _ _ _ _ _ hrd).mono ?_
    rintro e w' ⟨rfl, rfl⟩
    go_wp2_with fail
    refine (sGardenOf_c _ _ _ _ _ hrd).mono ?_
    rintro e w' ⟨rfl, m, rfl⟩
    go_wp2_with (go_at_call 19; refine (alive_c _).mono ?_; rintro e w2 ⟨rfl, hb2⟩)
    go_ret
    exact ⟨rfl, bt (bd hb m) hb2⟩
  · obtain ⟨f, rfl, hf⟩ := mapOk_ex hs
    have h7 := hf.le7
    obtain rfl : n' = f.length := by rw [← hl, ints_len]
    have h2 := two_le h7
    have hgi := gardenI_ok hf
    have hgl : gardenN f < 2 ^ f.length := by have := allN_lt f; unfold gardenN; omega
    have hcf : cfI (ints f) (gardenN f : Int) = 0 := by rw [cfI_ok hf hgl]; have := garden_none hf; unfold gardenN; omega
    have hz : ((gardenN f : Int) == 0) = turned f := by
      have := garden_zero hf
      rw [Bool.eq_iff_iff, ← this, beq_iff_eq]; unfold gardenN; omega
    generalize gardenN f = G at hgi hgl hcf hz
    have hg0 : ¬ ((G : Int) < 0) := by omega
    go_wp2_with fail
    refine (gardenOf_c _ _ _ _ _ hrd).mono ?_
    rintro e w' ⟨rfl, rfl⟩
    go_wp2_with fail
    refine (sGardenOf_c _ _ _ _ _ hrd).mono ?_
    rintro e w' ⟨rfl, m, rfl⟩
    have hrd2 := hrd.dn m
    have hb2 := bd hb m
    clear hrd hb
    go_wp2_with fail
    refine (turnedOf_ok _ _ _ _ hrd2 hf).mono ?_
    rintro e w2 ⟨A2, n2, c2, rfl, hO2, hb3⟩
    have hrd3 := hrd2.up hb3
    go_wp2_with (go_at_call 42; refine (comesFrom_c _ _ _ _ _ _ hrd3).mono ?_; rintro e w' ⟨rfl, rfl⟩)
    go_ret
    exact ⟨rfl, bt hb2 hb3⟩

set_option maxRecDepth 100000 in
set_option maxHeartbeats 800000 in
theorem walk_FnClosedOk (A : Option Addr) (n c : Nat) (bs : List Nat) (w : World) (h : RdB w w.heap.size A n c bs) :
    Calls Try.prog 13 #[.slice A n c] w fun e w' => e = .returned (.bool true) ∧ Below w.heap.size w w' := by
  have hcc := h.cap
  have hmm := h.max
  unfold maxLen at hmm
  by_cases hbig : 1048576 < n
  · go_enter Try.func13, Try.ntmps13
    go_wp2_with fail
    go_ret
    exact ⟨rfl, Below.refl _ _⟩
  go_enter Try.func13, Try.ntmps13
  go_wp2_with fail
  refine (drawClosedOk_c A n c bs _ h).mono ?_
  rintro e w1 ⟨A', n', c', xs, s, rfl, hO, hD, hb⟩
  have hrd := hO.rd
  have hl := hO.len
  rcases hs : setOk xs s with _ | _
  · have hcf := closedI_no hs
    go_wp2_with (first
      | (go_at_call 53; refine (closedOk_c _ _ _ _ _ _ hrd).mono ?_; rintro e w' ⟨rfl, rfl⟩)
      | (go_at_call 54; refine (sClosedOk_c _ _ _ _ _ _ hrd).mono ?_; rintro e w' ⟨rfl, rfl⟩)
      | (go_at_call 17; refine (sSetOk_c _ _ _ _ _ _ hrd).mono ?_; rintro e w' ⟨rfl, rfl⟩)
      | (go_at_call 19; refine (alive_c _).mono ?_; rintro e w2 ⟨rfl, hb2⟩))
    go_ret
    exact ⟨rfl, bt hb hb2⟩
  · obtain ⟨f, m, rfl, rfl, hf, hm⟩ := setOk_ex hs
    have h2 := two_le hf.le7
    have hcf := cfI_ok hf hm
    have hlf := ledI_ok hf hm
    have hc1 := cf_lt f m
    have hl1 := led_lt hf m
    have hco := closedI_ok hf hm
    have hcc2 := closedI_ok hf hc1
    have hcl2 := closedI_ok hf hl1
    have hand : bits .and .i64 (m : Int) (cf f m : Int) = ((m &&& cf f m : Nat) : Int) := bits_and _ _ (by omega) (by omega)
    have heq : (((m &&& cf f m : Nat) : Int) == (m : Int)) = closedN f m := by
      rw [Bool.eq_iff_iff, beq_iff_eq, closedN, closedN_iff, led_sub_cf hm, sub_and]; omega
    clear h2
    rcases hq : closedN f m with _ | _
    · have hne : ¬ (m &&& cf f m = m) := fun e => by rw [e, hq] at heq; simp at heq
      clear heq
      have hne' : (((m &&& cf f m : Nat) : Int) == (m : Int)) = false := by rw [beq_eq_false_iff_ne]; omega
      go_wp2_with (first
        | (go_at_call 53; refine (closedOk_c _ _ _ _ _ _ hrd).mono ?_; rintro e w' ⟨rfl, rfl⟩)
        | (go_at_call 54; refine (sClosedOk_c _ _ _ _ _ _ hrd).mono ?_; rintro e w' ⟨rfl, rfl⟩)
        | (go_at_call 17; refine (sSetOk_c _ _ _ _ _ _ hrd).mono ?_; rintro e w' ⟨rfl, rfl⟩)
        | (go_at_call 42; refine (comesFrom_c _ _ _ _ _ _ hrd).mono ?_; rintro e w' ⟨rfl, rfl⟩)
        | (go_at_call 19; refine (alive_c _).mono ?_; rintro e w2 ⟨rfl, hb2⟩))
      go_ret
      exact ⟨rfl, bt hb hb2⟩
    · have he : m &&& cf f m = m := by rw [hq] at heq; simp only [beq_iff_eq] at heq; omega
      have hsub := closedN_iff.1 hq
      have hk1 : closedN f (cf f m) = true := closedN_iff.2 (closed_cf hsub hm)
      have hk2 : closedN f (led f m) = true := closedN_iff.2 (closed_led hsub)
      rw [he] at hand
      rw [hk1] at hcc2
      rw [hk2] at hcl2
      clear heq hsub he
      go_wp2_with (first
        | (go_at_call 53; refine (closedOk_c _ _ _ _ _ _ hrd).mono ?_; rintro e w' ⟨rfl, rfl⟩)
        | (go_at_call 54; refine (sClosedOk_c _ _ _ _ _ _ hrd).mono ?_; rintro e w' ⟨rfl, rfl⟩)
        | (go_at_call 17; refine (sSetOk_c _ _ _ _ _ _ hrd).mono ?_; rintro e w' ⟨rfl, rfl⟩)
        | (go_at_call 42; refine (comesFrom_c _ _ _ _ _ _ hrd).mono ?_; rintro e w' ⟨rfl, rfl⟩)
        | (go_at_call 44; refine (ledTo_c _ _ _ _ _ _ hrd).mono ?_; rintro e w' ⟨rfl, rfl⟩)
        | (go_at_call 19; refine (alive_c _).mono ?_; rintro e w2 ⟨rfl, hb2⟩))
      go_ret
      exact ⟨rfl, bt hb hb2⟩

/-! ### FnLedTo -/
theorem galois {f : List Nat} {m o : Nat} (hm : m < 2 ^ f.length) : (led f m &&& o = led f m) ↔ (m &&& cf f o = m) := by
  rw [← sub_and, ← sub_and, led_sub_cf hm]
theorem tmod_two (m k : Nat) : Int.tmod ((m : Int) / 2 ^ k) 2 = ((if m.testBit k then 1 else 0 : Nat) : Int) := by
  have h0 : (0 : Int) ≤ (m : Int) / 2 ^ k := Int.ediv_nonneg (by omega) (by rw [castPow]; exact Int.natCast_nonneg _)
  rw [Int.tmod_eq_emod_of_nonneg h0, Nat.testBit_eq_decide_div_mod_eq, castPow]
  have : ((m / 2 ^ k % 2 : Nat) : Int) = (m : Int) / ((2 ^ k : Nat) : Int) % 2 := by simp
  rw [← this]
  have := Nat.mod_two_eq_zero_or_one (m / 2 ^ k)
  rcases this with h | h <;> simp [h]
theorem pc_succ (m k : Nat) : pc m (k + 1) = pc m k + (if m.testBit k then 1 else 0) := rfl
set_option maxRecDepth 100000 in
set_option maxHeartbeats 1600000 in
theorem walk_FnLedTo (A : Option Addr) (n c : Nat) (bs : List Nat) (w : World) (h : RdB w w.heap.size A n c bs) :
    Calls Try.prog 11 #[.slice A n c] w fun e w' => e = .returned (.bool true) ∧ Below w.heap.size w w' := by
  have hcc := h.cap
  have hmm := h.max
  unfold maxLen at hmm
  by_cases hbig : 1048576 < n
  · go_enter Try.func11, Try.ntmps11
    go_wp2_with fail
    go_ret
    exact ⟨rfl, Below.refl _ _⟩
  go_enter Try.func11, Try.ntmps11
  go_wp2_with fail
  refine (drawLedTo_c A n c bs _ h).mono ?_
  rintro e w1 ⟨A', n', c', xs, s, rfl, hO, hD, hb⟩
  have hrd := hO.rd
  have hl := hO.len
  rcases hs : setOk xs s with _ | _
  · have hcf := ledI_no hs
    go_wp2_with (first
      | (go_at_call 44; refine (ledTo_c _ _ _ _ _ _ hrd).mono ?_; rintro e w' ⟨rfl, rfl⟩)
      | (go_at_call 46; refine (sLedTo_c _ _ _ _ _ _ hrd).mono ?_; rintro e w' ⟨rfl, rfl⟩)
      | (go_at_call 19; refine (alive_c _).mono ?_; rintro e w2 ⟨rfl, hb2⟩))
    go_ret
    exact ⟨rfl, bt hb hb2⟩
  · obtain ⟨f, m, rfl, rfl, hf, hm⟩ := setOk_ex hs
    have h7 := hf.le7
    obtain rfl : n' = f.length := by rw [← hl, ints_len]
    have h2 := two_le h7
    have hpw : (2 : Int) ^ f.length = ((2 ^ f.length : Nat) : Int) := castPow _
    have hlf := ledI_ok hf hm
    have hl1 := led_lt hf m
    have HPC := Lib.hid (pc_led hf (m := m))
    have HM := Lib.hid hm
    obtain ⟨L, hL⟩ : ∃ L, L = led f m := ⟨_, rfl⟩
    have HL := Lib.hid hL
    rw [← hL] at hlf hl1 HPC
    obtain ⟨D, hD2⟩ : ∃ D : Nat, D = 2 ^ f.length := ⟨_, rfl⟩
    rw [← hD2] at hpw hl1 hm h2
    have hD128 : D ≤ 128 := h2.2
    have HD := Lib.hid hD2
    clear hD2 h2 hL
    go_wp2_with (first
      | (go_at_call 44; refine (ledTo_c _ _ _ _ _ _ hrd).mono ?_; rintro e w' ⟨rfl, rfl⟩)
      | (go_at_call 46; refine (sLedTo_c _ _ _ _ _ _ hrd).mono ?_; rintro e w' ⟨rfl, rfl⟩))
    go_loopw [6] (fun i wr => ∃ k : Nat, k ≤ D ∧ i = .int .i64 k ∧ wr = w1) (fun i _ => D - (intOf i).toNat)
    case atStart => exact ⟨0, Nat.zero_le _, rfl, rfl⟩
    case round =>
      obtain ⟨k, hk, rfl, rfl⟩ := hrel
      by_cases hlt : k < D
      · have hcf : cfI (ints f) (k : Int) = (cf f k : Int) := cfI_ok hf (by rw [← HD.out]; exact hlt)
        have hck : cf f k < D := by rw [HD.out]; exact cf_lt f k
        have hand1 : bits .and .i64 (L : Int) (k : Int) = ((L &&& k : Nat) : Int) := bits_and _ _ (by omega) (by omega)
        have hand2 : bits .and .i64 (m : Int) (cf f k : Int) = ((m &&& cf f k : Nat) : Int) := bits_and _ _ (by omega) (by omega)
        have hg := galois (f := f) (o := k) HM.out
        rw [← HL.out] at hg
        by_cases hq : L &&& k = L
        · have hq2 := hg.1 hq
          rw [hq] at hand1
          rw [hq2] at hand2
          clear hg hq hq2
          go_wp2_with (go_at_call 42; refine (comesFrom_c _ _ _ _ _ _ hrd).mono ?_; rintro e w' ⟨rfl, rfl⟩)
          go_roundw
          case rel => exact ⟨k + 1, by omega, by go_num, trivial⟩
          case measure => simp [intOf]; omega
        · have hq2 : ¬ (m &&& cf f k = m) := fun e => hq (hg.2 e)
          have he1 : (((L &&& k : Nat) : Int) == (L : Int)) = false := by rw [beq_eq_false_iff_ne]; omega
          have he2 : (((m &&& cf f k : Nat) : Int) == (m : Int)) = false := by rw [beq_eq_false_iff_ne]; omega
          clear hg
          go_wp2_with (go_at_call 42; refine (comesFrom_c _ _ _ _ _ _ hrd).mono ?_; rintro e w' ⟨rfl, rfl⟩)
          go_roundw
          case rel => exact ⟨k + 1, by omega, by go_num, trivial⟩
          case measure => simp [intOf]; omega
      · go_wp2_with fail
        go_loop [7, 8, 9] (fun a b i => ∃ k : Nat, k ≤ f.length ∧ i = .int .i64 k ∧ a = .int .i64 ((pc m k : Nat) : Int) ∧ b = .int .i64 ((pc L k : Nat) : Int)) (fun _ _ i => f.length - (intOf i).toNat)
        case atStart => exact ⟨0, Nat.zero_le _, rfl, rfl, rfl⟩
        case round =>
          obtain ⟨k, hk, rfl, rfl, rfl⟩ := hrel
          have hp1 := pc_le m k
          have hp2 := pc_le L k
          by_cases hlt : k < f.length
          · have ht1 := tmod_two m k
            have ht2 := tmod_two L k
            have hs1 := shr_bit m k
            have hs2 := shr_bit L k
            have hx1 := pc_succ m k
            have hx2 := pc_succ L k
            generalize hu1 : (if m.testBit k then 1 else 0 : Nat) = u1 at ht1 hx1
            generalize hu2 : (if L.testBit k then 1 else 0 : Nat) = u2 at ht2 hx2
            have hb1 : u1 ≤ 1 := by rw [← hu1]; split <;> omega
            have hb2 : u2 ≤ 1 := by rw [← hu2]; split <;> omega
            clear hu1 hu2
            go_wp2_with fail
            go_round
            case rel => exact ⟨k + 1, by omega, by go_num, by rw [hx1]; go_num, by rw [hx2]; go_num⟩
            case measure => simp [intOf]; omega
          · obtain rfl : k = f.length := by omega
            have hle : ((pc L f.length : Nat) : Int) ≤ ((pc m f.length : Nat) : Int) := by have := HPC.out; omega
            go_wp2_with fail
            go_ret
            exact ⟨rfl, hb⟩
end Go.Proofs.Ytpbpkdkjjbhjoaa
