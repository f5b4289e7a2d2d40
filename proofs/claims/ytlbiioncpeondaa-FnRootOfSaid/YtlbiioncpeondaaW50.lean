/- Walks: SameOf, BehindOf, powerOf, PowerOf (impl). -/
import Derived.Test.YtlbiioncpeondaaW48
import Derived.Test.YtlbiioncpeondaaM14
namespace Go.Proofs.Ytlbiioncpeondaa
set_option linter.unusedVariables false
open Go.RowKit

set_option maxRecDepth 100000 in
set_option maxHeartbeats 800000 in
theorem sameOf_ok (n : Nat) (w : World) (h1 : 1 ≤ n) (h7 : n ≤ 7) :
    Calls Try.prog 100 #[.int .i64 (n : Int)] w (Row1 (ints ((List.range n).map (fun k => k))) w) := by
  obtain ⟨i0, hi, hz0, hz1, hz2⟩ := info_parts int_info
  go_enter Try.func100, Try.ntmps100
  go_wp2_with (at_make; refine wpList_make_full _ rfl _ _ 22 rfl w.heap.size 3 i0 (.int .i64 0) 1 Try.underlying22 hi hz0 hz1 _ _ _ _ n rfl rfl rfl rfl (by rw [hz2]; omega) (by unfold maxLen; omega) (Nat.le_refl _) ?_)
  intro w1 hown1 hg1
  have hb1 : Below w.heap.size w w1 := (Below.refl _ _).grown hg1 (Nat.le_refl _) (fun k hk => by cases hk)
  have ho1 := tab_start (fun k => k) hown1
  clear hown1 hg1
  go_wp2_with fail
  go_loopw [15] (fun i wr => ∃ k : Nat, k ≤ n ∧ i = .int .i64 k ∧ OwnIn wr w.heap.size (w.heap.size + 1) (some ⟨w.heap.size, 0, none⟩) n n (ints (tab (fun k => k) n k)) ∧ Below w.heap.size w wr) (fun i _ => n - (intOf i).toNat)
  case atStart => exact ⟨0, Nat.zero_le _, rfl, ho1, hb1⟩
  case round =>
    obtain ⟨k, hk, rfl, ho, hbw⟩ := hrel
    clear ho1 hb1 w1
    by_cases hlt : k < n
    · have hold := ho.cell (j := k) hlt
      have hfz := ho.frozen k
      have HST := Lib.hid (ho.store k (k : Int))
      have HT := Lib.hid (tab_succ (fun k => k) hlt)
      have HB := Lib.hid hbw
      clear ho hbw
      go_wp2_with fail
      go_roundw
      case rel => exact ⟨k + 1, by omega, by go_num, by have := HST.out.1; rwa [← ints_set, HT.out] at this, HB.out.trans (HST.out.2.below' (Nat.le_refl _) (by have := HB.out.size; omega))⟩
      case measure => simp [intOf]; omega
    · obtain rfl : k = n := by omega
      have HO := Lib.hid ho
      clear ho
      go_wp2_with fail
      go_ret
      exact ⟨_, _, _, rfl, by have := HO.out; rw [tab_all] at this; exact this.all_ (by have := (HO.out.lt w.heap.size rfl).2.2; omega), hbw⟩

set_option maxRecDepth 100000 in
set_option maxHeartbeats 1600000 in
theorem behindOf_ok (A A' : Option Addr) (c c' : Nat) (f g : List Nat) (w : World) (h : Rd w w.heap.size A f.length c (ints f)) (h' : Rd w w.heap.size A' f.length c' (ints g)) (hf : MapN f) (hg : MapN g) (hl : f.length = g.length) :
    Calls Try.prog 101 #[.slice A f.length c, .slice A' f.length c'] w (Row1 (ints (behN f g)) w) := by
  have h7 := hf.le7
  have h1 := hf.pos
  have hok := mapOk_ints hf
  have hok2 := mapOk_ints hg
  have hcp := h.cap
  have hmx := h.max
  have hcp2 := h'.cap
  have hmx2 := h'.max
  unfold maxLen at hmx hmx2
  obtain ⟨i0, hi, hz0, hz1, hz2⟩ := info_parts int_info
  obtain ⟨b1, off1, rfl, hbb1, hcells1⟩ := h.2.2.2 (by omega)
  obtain ⟨b2, off2, rfl, hbb2, hcells2⟩ := h'.2.2.2 (by omega)
  have HC1 := Lib.hid hcells1
  have HC2 := Lib.hid hcells2
  have HL := Lib.hid hl
  have hqn : ((f.length : Int) != (f.length : Int)) = false := by simp
  clear hcells1 hcells2 hl
  go_enter Try.func101, Try.ntmps101
  go_wp2_with fail
  refine (mapOk_c _ _ _ _ _ h).mono ?_
  rintro e w' ⟨rfl, rfl⟩
  rw [hok]
  go_wp2_with fail
  refine (mapOk_c _ _ _ _ _ h').mono ?_
  rintro e w' ⟨rfl, rfl⟩
  rw [hok2]
  go_wp2_with (at_make; refine wpList_make_full _ rfl _ _ 22 rfl w.heap.size 3 i0 (.int .i64 0) 1 Try.underlying22 hi hz0 hz1 _ _ _ _ f.length rfl rfl rfl rfl (by rw [hz2]; omega) (by unfold maxLen; omega) (Nat.le_refl _) ?_)
  intro w1 hown1 hg1
  have hB1 : Below w.heap.size w w1 := (Below.refl _ _).grown hg1 (Nat.le_refl _) (fun k hk => by cases hk)
  have ho1 := tab_start (fun k => nx g (nx f k)) hown1
  clear hown1 hg1
  go_wp2_with fail
  go_loopw [28] (fun i wr => ∃ k : Nat, k ≤ f.length ∧ i = .int .i64 k ∧ OwnIn wr w.heap.size (w.heap.size + 1) (some ⟨w.heap.size, 0, none⟩) f.length f.length (ints (tab (fun k => nx g (nx f k)) f.length k)) ∧ Below w.heap.size w wr) (fun i _ => f.length - (intOf i).toNat)
  case atStart => exact ⟨0, Nat.zero_le _, rfl, ho1, hB1⟩
  case round =>
    obtain ⟨k, hk, rfl, ho, hbw⟩ := hrel
    clear ho1 hB1 w1
    by_cases hlt : k < f.length
    · have hx := hf.has k hlt
      have hc1 := (hbw.cell (p := ⟨b1, off1 + k, none⟩) hbb1).trans (HC1.out k hlt)
      have hc2 := (hbw.cell (p := ⟨b2, off2 + nx f k, none⟩) hbb2).trans (HC2.out (nx f k) hx)
      rw [gI_ints] at hc1 hc2
      have hold := ho.cell (j := k) hlt
      have hfz := ho.frozen k
      have HST := Lib.hid (ho.store k ((nx g (nx f k) : Nat) : Int))
      have HT := Lib.hid (tab_succ (fun k => nx g (nx f k)) hlt)
      have HB := Lib.hid hbw
      generalize nx g (nx f k) = y at *
      generalize nx f k = x at *
      clear ho hbw
      go_wp2_with fail
      go_roundw
      case rel => exact ⟨k + 1, by omega, by go_num, by have := HST.out.1; rwa [← ints_set, HT.out] at this, HB.out.trans (HST.out.2.below' (Nat.le_refl _) (by have := HB.out.size; omega))⟩
      case measure => simp [intOf]; omega
    · obtain rfl : k = f.length := by omega
      have HO := Lib.hid ho
      clear ho
      go_wp2_with fail
      go_ret
      exact ⟨_, _, _, rfl, by have := HO.out; rw [tab_all] at this; exact this.all_ (by have := (HO.out.lt w.heap.size rfl).2.2; omega), hbw⟩
theorem behindOf_ok' (A A' : Option Addr) (n n' c c' : Nat) (f g : List Nat) (w : World) (h : Rd w w.heap.size A n c (ints f)) (h' : Rd w w.heap.size A' n' c' (ints g)) (hf : MapN f) (hg : MapN g) (hl : f.length = g.length) :
    Calls Try.prog 101 #[.slice A n c, .slice A' n' c'] w (Row1 (ints (behN f g)) w) := by
  obtain rfl : n = f.length := by rw [← h.len, ints_len]
  obtain rfl : n' = f.length := by rw [← h'.len, ints_len, hl]
  exact behindOf_ok A A' c c' f g w h h' hf hg hl
theorem Row1.eq_ {xs ys : List Int} {w w' : World} {e : Ending} (h : Row1 xs w e w') (he : xs = ys) : Row1 ys w e w' := by rw [← he]; exact h

set_option maxRecDepth 100000 in
set_option maxHeartbeats 1600000 in
theorem powerOf_ok (A : Option Addr) (c : Nat) (f : List Nat) (hf : MapN f) : ∀ (t : Nat) (w : World), t ≤ 1000000 → Rd w w.heap.size A f.length c (ints f) →
    Calls Try.prog 81 #[.slice A f.length c, .int .i64 (t : Int)] w (Row1 (ints (powN f t)) w) := by
  intro t
  induction t using Nat.strongRecOn with
  | _ t ih =>
  intro w ht h
  have h7 := hf.le7
  have h1 := hf.pos
  by_cases h0 : t = 0
  · have HS := Lib.hid (same_pow f)
    subst h0
    clear ih
    go_enter Try.func81, Try.ntmps81
    go_wp2_with fail
    refine (sameOf_ok f.length _ h1 h7).mono ?_
    rintro e w1 ⟨A1, n1, c1, rfl, hO1, hb1⟩
    rw [HS.out] at hO1
    go_wp2_with fail
    go_ret
    exact ⟨A1, n1, c1, rfl, hO1, hb1⟩
  · have hq : ((t : Int) == 0) = false := by rw [beq_eq_false_iff_ne]; omega
    have hih : Hid (Calls Try.prog 81 #[.slice A f.length c, .int .i64 ((t : Int) / 2)] w (Row1 (ints (powN f (t / 2))) w)) := by
      have := ih (t / 2) (by omega) w (by omega) h
      rwa [show (((t / 2 : Nat)) : Int) = (t : Int) / 2 by simp] at this
    have hpm := powN_map hf (t / 2)
    have hpl := powN_len f (t / 2)
    have hbm := Lib.hid (behN_map hpm hpm rfl)
    have hbl := Lib.hid ((behN_len (powN f (t / 2)) (powN f (t / 2))).trans hpl)
    have HH := Lib.hid (fun hh => powN_half hf (t := t) hh)
    have HO := Lib.hid (fun hh => powN_odd hf (t := t) hh)
    have HPL := Lib.hid hpl
    have HPM := Lib.hid hpm
    clear ih hpm hpl
    go_enter Try.func81, Try.ntmps81
    go_wp2_with fail
    refine hih.out.mono ?_
    rintro e w1 ⟨A1, n1, c1, rfl, hO1, hb1⟩
    have hr1 := hO1.rd
    generalize powN f (t / 2) = H at *
    go_wp2_with fail
    refine (behindOf_ok' _ _ _ _ _ _ H H _ hr1 hr1 HPM.out HPM.out rfl).mono ?_
    rintro e w2 ⟨A2, n2, c2, rfl, hO2, hb2⟩
    have hB2 := bt hb1 hb2
    have hO2' := hO2.wide (lo' := w.heap.size) hb1.size (Nat.le_refl _)
    have hr2 := hO2.rd
    have hrf := (h.up hb1).up hb2
    clear hO1 hr1 hb1 hb2 hO2
    rcases Nat.mod_two_eq_zero_or_one t with hp | hp
    · have hq1 : ((t : Int) % 2 == 1) = false := by rw [beq_eq_false_iff_ne]; omega
      have hP := Lib.hid (HH.out hp)
      clear HH HO hp
      go_wp2_with fail
      go_ret
      exact ⟨A2, n2, c2, rfl, by rw [← hP.out]; exact hO2', hB2⟩
    · have hq1 : ((t : Int) % 2 == 1) = true := by rw [beq_iff_eq]; omega
      have hP := Lib.hid (HO.out hp)
      clear HH HO hp
      go_wp2_with fail
      refine (behindOf_ok' _ _ _ _ _ _ (behN H H) f _ hr2 hrf hbm.out hf hbl.out).mono ?_
      rintro e w3 ⟨A3, n3, c3, rfl, hO3, hb3⟩
      have hB3 := bt hB2 hb3
      have hO3' := hO3.wide (lo' := w.heap.size) hB2.size (Nat.le_refl _)
      clear hO3 hb3
      go_wp2_with fail
      go_ret
      exact ⟨A3, n3, c3, rfl, by rw [← hP.out]; exact hO3', hB3⟩
set_option maxHeartbeats 800000 in
theorem powerOfI_c (A : Option Addr) (n c : Nat) (xs : List Int) (t : Int) (w : World) (h : Rd w w.heap.size A n c xs) (ht : -9223372036854775808 ≤ t ∧ t ≤ 9223372036854775807) :
    Calls Try.prog 51 #[.slice A n c, .int .i64 t] w (Row1 (powI xs t) w) := by
  rcases hm : mapOk xs with _ | _
  · have HE := Lib.hid (powI_no1 t hm)
    go_enter Try.func51, Try.ntmps51
    go_wp2_with (go_at_call 61; refine (mapOk_c _ _ _ _ _ h).mono ?_; rintro e w' ⟨rfl, rfl⟩)
    go_ret
    exact ⟨_, _, _, rfl, by rw [HE.out]; exact OwnIn.nil_ _ _ _, Below.refl _ _⟩
  · rcases hi : inB t 0 1000000 with _ | _
    · have HE := Lib.hid (powI_no2 (xs := xs) hi)
      have hin := inB_not.1 hi
      have hcase : t < 0 ∨ (0 ≤ t ∧ 1000000 < t) := by omega
      clear hin hi
      rcases hcase with h2 | ⟨h2, h3⟩
      all_goals
        go_enter Try.func51, Try.ntmps51
        go_wp2_with (go_at_call 61; refine (mapOk_c _ _ _ _ _ h).mono ?_; rintro e w' ⟨rfl, rfl⟩)
        go_ret
        exact ⟨_, _, _, rfl, by rw [HE.out]; exact OwnIn.nil_ _ _ _, Below.refl _ _⟩
    · obtain ⟨f, rfl, hf⟩ := mapOk_ex hm
      obtain rfl : n = f.length := by rw [← h.len, ints_len]
      obtain ⟨h2, h3⟩ := inB_iff.1 hi
      obtain ⟨k, rfl⟩ := Int.eq_ofNat_of_zero_le h2
      have hk : k ≤ 1000000 := by omega
      have HE := Lib.hid (powI_ok hf hk)
      have hk2 : ¬ ((k : Int) < 0) := by omega
      have hk3 : ¬ (1000000 < (k : Int)) := by omega
      clear hi h2 h3 ht
      go_enter Try.func51, Try.ntmps51
      go_wp2_with (go_at_call 61; refine (mapOk_c _ _ _ _ _ h).mono ?_; rintro e w' ⟨rfl, rfl⟩)
      refine (powerOf_ok A c f hf k _ hk h).mono ?_
      rintro e w1 ⟨A1, n1, c1, rfl, hO1, hb1⟩
      go_wp2_with fail
      go_ret
      exact ⟨A1, n1, c1, rfl, by rw [HE.out]; exact hO1, hb1⟩
end Go.Proofs.Ytlbiioncpeondaa
