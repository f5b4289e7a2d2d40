/- Walks: alive, sameInts (laws), TurnedOf (impl), the drawings of maps and sets (spec). -/
import Derived.Test.YtpbpkdkjjbhjoaaW17
import Derived.Test.YtpbpkdkjjbhjoaaM7
namespace Go.Proofs.Ytpbpkdkjjbhjoaa
set_option linter.unusedVariables false
open Go.RowKit

theorem rd_two (w : World) (a b : Int) : Rd (w.alloc (Obj.cells #[.int .i64 a, .int .i64 b] 3)) (w.alloc (Obj.cells #[.int .i64 a, .int .i64 b] 3)).heap.size (some ⟨w.heap.size, 0, none⟩) 2 2 [a, b] :=
  ⟨rfl, Nat.le_refl _, by unfold maxLen; omega, fun _ => ⟨w.heap.size, 0, rfl, by simp, fun k hk => by
    have : k = 0 ∨ k = 1 := by omega
    rcases this with rfl | rfl <;> simp [gI]⟩⟩
set_option maxHeartbeats 400000 in
theorem alive_c (w : World) : Calls Try.prog 19 #[] w fun e w' => e = .returned (.bool true) ∧ Below w.heap.size w w' := by
  have h1 : mapOk [1, 0] = true := by decide
  have h2 : mapOk [2, 0] = false := by decide
  go_enter Try.func19, Try.ntmps19
  go_wp2_with fail
  have hr1 := rd_two w 1 0
  have hb1 : Below w.heap.size w (w.alloc (Obj.cells #[.int .i64 1, .int .i64 0] 3)) := (Below.refl _ _).alloc (Nat.le_refl _) _
  generalize w.alloc (Obj.cells #[.int .i64 1, .int .i64 0] 3) = w1 at hr1 hb1 ⊢
  refine (mapOk_c _ _ _ _ _ hr1).mono ?_
  rintro e w' ⟨rfl, rfl⟩
  go_wp2_with fail
  have hr2 := rd_two w1 2 0
  have hb2 := bt hb1 ((Below.refl w1.heap.size w1).alloc (Nat.le_refl _) (Obj.cells #[.int .i64 2, .int .i64 0] 3))
  generalize w1.alloc (Obj.cells #[.int .i64 2, .int .i64 0] 3) = w2 at hr2 hb2 ⊢
  refine (mapOk_c _ _ _ _ _ hr2).mono ?_
  rintro e w' ⟨rfl, rfl⟩
  go_wp2_with fail
  go_ret
  exact ⟨rfl, hb2⟩

set_option maxHeartbeats 400000 in
theorem sameInts_c (A A' : Option Addr) (n c n' c' : Nat) (xs ys : List Int) (w : World) (h : Rd w w.heap.size A n c xs) (h' : Rd w w.heap.size A' n' c' ys) :
    Calls Try.prog 51 #[.slice A n c, .slice A' n' c'] w fun e w' => e = .returned (.bool (eqB xs ys)) ∧ ∃ m, w' = w.drewN m := by
  have HL := Lib.hid h.len
  have HL' := Lib.hid h'.len
  have hm := h.max
  have hc := h.cap
  have hm' := h'.max
  have hc' := h'.cap
  unfold maxLen at hm hm'
  by_cases hne : n = n'
  · subst hne
    go_enter Try.func51, Try.ntmps51
    go_wp2
    go_loopw [5] (fun i wr => ∃ k : Nat, k ≤ n ∧ i = .int .i64 k ∧ (∀ j, j < k → gI xs j = gI ys j) ∧ ∃ m, wr = w.drewN m) (fun i _ => n - (intOf i).toNat)
    case atStart => exact ⟨0, Nat.zero_le _, rfl, fun j hj => absurd hj (Nat.not_lt_zero _), 0, rfl⟩
    case round =>
      obtain ⟨k, hk, rfl, hall, m, rfl⟩ := hrel
      have HA := Lib.hid hall
      clear hall
      by_cases hlt : k < n
      · obtain ⟨b, off, rfl, hb, hcell⟩ := h.at_ hlt
        obtain ⟨b', off', rfl, hb', hcell'⟩ := h'.at_ hlt
        by_cases he : gI xs k = gI ys k
        · have hq : (gI xs k != gI ys k) = false := by simp [he]
          have HE := Lib.hid he
          clear he
          go_wp2
          go_quiet (fail)
          go_wp2
          go_roundw
          case rel => exact ⟨k + 1, by omega, by go_num, fun j hj => by
            rcases Nat.lt_or_ge j k with h' | h'
            · exact HA.out j h'
            · obtain rfl : j = k := by omega
              exact HE.out, _, rfl⟩
          case measure => simp [intOf]; omega
        · have hq : (gI xs k != gI ys k) = true := by simp [he]
          have HE := Lib.hid he
          clear he
          go_wp2
          go_quiet (fail)
          go_wp2
          go_ret
          exact ⟨boolEnd (decide_eq_false (fun e => HE.out (by rw [e]))).symm, _, World.drewN_drewN ..⟩
      · go_wp2
        go_ret
        exact ⟨boolEnd (decide_eq_true (eq_of_gI (by rw [HL.out, HL'.out]) (fun j hj => HA.out j (by have := HL.out; omega)))).symm, _, rfl⟩
  · have hq : ((n : Int) != (n' : Int)) = true := by simp; omega
    go_enter Try.func51, Try.ntmps51
    go_wp2
    go_ret
    exact ⟨boolEnd (decide_eq_false (fun e => hne (by rw [← HL.out, ← HL'.out, e]))).symm, 0, rfl⟩

/-! ### TurnedOf (impl) -/
theorem turn_start {w : World} {B n : Nat} (h : w.ownsRow B 3 1 (.slice (some ⟨B, 0, none⟩) n n) n (List.replicate n (Value.int .i64 0))) :
    OwnIn w B (B + 1) (some ⟨B, 0, none⟩) n n (ints (List.replicate n 0)) := by
  refine ⟨⟨by rw [ints_len]; simp, ?_⟩, fun k hk => by cases hk; exact Nat.lt_succ_self _⟩
  rw [ints_replicate, List.map_replicate]; exact h
set_option maxRecDepth 100000 in
set_option maxHeartbeats 1600000 in
theorem turnedOf_ok (A : Option Addr) (c : Nat) (f : List Nat) (w : World) (h : Rd w w.heap.size A f.length c (ints f)) (hf : MapN f) :
    Calls Try.prog 58 #[.slice A f.length c] w (RowBool w (if turned f then ints (backN f) else []) (turned f)) := by
  have h7 := hf.le7
  have h1 := hf.pos
  have hok := mapOk_ints hf
  obtain ⟨i0, hi, hz0, hz1, hz2⟩ := info_parts int_info
  obtain ⟨r, hr⟩ : ∃ r, r = (if turned f then ints (backN f) else []) := ⟨_, rfl⟩
  rw [← hr]
  have HR := Lib.hid hr
  clear hr
  go_enter Try.func58, Try.ntmps58
  go_wp2_with (first
    | (go_at_call 50; refine (mapOk_c _ _ _ _ _ h).mono ?_; rintro e w' ⟨rfl, rfl⟩)
    | (at_make; refine wpList_make_full _ rfl _ _ 23 rfl w.heap.size 3 i0 (.int .i64 0) 1 Try.underlying23 hi hz0 hz1 _ _ _ _ f.length rfl rfl rfl rfl (by rw [hz2]; omega) (by unfold maxLen; omega) (Nat.le_refl _) ?_))
  intro w1 hown1 hg1
  have hb1 : Below w.heap.size w w1 := (Below.refl _ _).grown hg1 (Nat.le_refl _) (fun k hk => by cases hk)
  have ho1 : OwnIn w1 w.heap.size (w.heap.size + 1) (some ⟨w.heap.size, 0, none⟩) f.length f.length (ints (backK f 0)) := turn_start (by simpa [toList_madeCells_one, Value.cells] using hown1)
  clear hown1 hg1
  go_wp2_with fail
  go_loopw [5, 16] (fun s i wr => ∃ k : Nat, k ≤ f.length ∧ i = .int .i64 k ∧ s = .int .i64 ((metK f k : Nat) : Int) ∧ (∀ j, j < k → (metK f j).testBit (nx f j) = false) ∧ OwnIn wr w.heap.size (w.heap.size + 1) (some ⟨w.heap.size, 0, none⟩) f.length f.length (ints (backK f k)) ∧ Below w.heap.size w wr) (fun s i _ => f.length - (intOf i).toNat)
  case atStart => exact ⟨0, Nat.zero_le _, rfl, rfl, fun j hj => absurd hj (Nat.not_lt_zero _), ho1, hb1⟩
  case round =>
    clear ho1 hb1
    obtain ⟨k, hk, rfl, rfl, hno, ho, hbw⟩ := hrel
    have HN := Lib.hid hno
    clear hno
    by_cases hlt : k < f.length
    · obtain ⟨b, off, rfl, hb, hcell0⟩ := h.at_ hlt
      have hcell : wr.cell? ⟨b, off + k, none⟩ = some (.int .i64 ((nx f k : Nat) : Int)) := by rw [hbw.cell (p := ⟨b, off + k, none⟩) hb, hcell0, gI_ints]
      have hx := hf.has k hlt
      have hm7 := metK_lt hf hk
      have h2 := two_le (k := nx f k) (by omega)
      have hi1 : (1 : Int) ≤ 2 ^ nx f k := by rw [castPow]; omega
      have hi2 : (2 : Int) ^ nx f k ≤ 128 := by rw [castPow]; omega
      have hand : (bits .and .i64 ((metK f k : Nat) : Int) (2 ^ nx f k) != 0) = (metK f k).testBit (nx f k) := by
        rw [castPow, bits_and _ _ (by omega) (by omega), ← and_two_ne, Bool.eq_iff_iff]; simp
      have hor : bits .or .i64 ((metK f k : Nat) : Int) (2 ^ nx f k) = ((metK f k ||| 2 ^ nx f k : Nat) : Int) := by
        rw [castPow]; exact bits_or _ _ (by omega) (by omega)
      have hold := ho.cell (j := nx f k) (by omega)
      have hfz := ho.frozen (nx f k)
      have HST := Lib.hid (ho.store (nx f k) (k : Int))
      have HB := Lib.hid hbw
      clear h2 hcell0 ho hbw
      rcases hbt : (metK f k).testBit (nx f k) with _ | _
      · have HT := Lib.hid hbt
        go_wp2_with fail
        go_roundw
        case rel => exact ⟨k + 1, by omega, by go_num, rfl, fun j hj => by
          rcases Nat.lt_or_ge j k with h' | h'
          · exact HN.out j h'
          · obtain rfl : j = k := by omega
            exact HT.out, by rw [backK, ints_set]; exact HST.out.1, HB.out.trans (HST.out.2.below (by have := HB.out.size; omega))⟩
        case measure => simp [intOf]; omega
      · have HT := Lib.hid (turned_not hlt hbt)
        go_wp2_with fail
        go_ret2
        have hr := HR.out
        rw [HT.out] at hr ⊢
        rw [if_neg (by decide)] at hr
        subst hr
        exact ⟨_, _, _, rfl, OwnIn.nil_ _ _ _, HB.out⟩
    · obtain rfl : k = f.length := by omega
      have HT := Lib.hid (turned_yes HN.out)
      have HO := Lib.hid ho
      clear ho
      go_wp2_with fail
      go_ret2
      have hr := HR.out
      rw [HT.out] at hr ⊢
      rw [if_pos rfl] at hr
      subst hr
      exact ⟨_, _, _, rfl, HO.out.wide (Nat.le_refl _) (by have := (HO.out.lt w.heap.size rfl).2.2; omega), hbw⟩

/-! ### drawings -/
def MapOut (w : World) (e : Ending) (w' : World) : Prop :=
  ∃ (A : Option Addr) (n c : Nat) (xs : List Int), e = .returned (.slice A n c) ∧ OwnIn w' w.heap.size w'.heap.size A n c xs ∧ Drawn xs ∧ Below w.heap.size w w'
def SetOut (w : World) (e : Ending) (w' : World) : Prop :=
  ∃ (A : Option Addr) (n c : Nat) (xs : List Int) (s : Int), e = .returned (.tuple #[.slice A n c, .int .i64 s]) ∧ OwnIn w' w.heap.size w'.heap.size A n c xs ∧ Drawn xs ∧ Below w.heap.size w w'
end Go.Proofs.Ytpbpkdkjjbhjoaa
