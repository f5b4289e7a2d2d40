/- Walks: CentreOf (impl, spec) of whatever row; the law FnCentreOf. -/
import Derived.Test.YtlbiioncpeondaaW46
import Derived.Test.YtlbiioncpeondaaM12
import Derived.StillTailTactics
namespace Go.Proofs.Ytlbiioncpeondaa
set_option linter.unusedVariables false
open Go.RowKit

def centreI (xs : List Int) : List Int := if codedOk xs then ints (ctN (toN xs)) else []
theorem centreI_ok {c : List Nat} (hc : CodeN c) : centreI (ints c) = ints (ctN c) := by unfold centreI; rw [if_pos (codedOk_ints hc), toN_ints]
theorem centreI_no {xs : List Int} (h : codedOk xs = false) : centreI xs = [] := by unfold centreI; rw [h]; simp
set_option maxHeartbeats 800000 in
theorem centreOf_c (A : Option Addr) (n c : Nat) (xs : List Int) (w : World) (h : Rd w w.heap.size A n c xs) :
    Calls Try.prog 34 #[.slice A n c] w (Row1 (centreI xs) w) := by
  rcases hs : codedOk xs with _ | _
  · have HS := Lib.hid (centreI_no hs)
    go_enter Try.func34, Try.ntmps34
    go_wp2_with (go_at_call 37; refine (codedOk_c _ _ _ _ _ h).mono ?_; rintro e w' ⟨rfl, rfl⟩)
    go_ret
    exact ⟨_, _, _, rfl, by rw [HS.out]; exact OwnIn.nil_ _ _ _, Below.refl _ _⟩
  · obtain ⟨f, rfl, hf⟩ := codedOk_ex hs
    obtain rfl : f.length = n := by rw [← h.len, ints_len]
    rw [centreI_ok hf]
    exact (centreOf_ok A c f w h hf).mono fun e w' ⟨he, ho, hb⟩ => ⟨_, _, _, he, ho.wide (Nat.le_refl _) (by have := (ho.lt w.heap.size rfl).2.2; omega), hb⟩
set_option maxRecDepth 100000 in
set_option maxHeartbeats 1600000 in
theorem sCentreOf_c (A : Option Addr) (n c : Nat) (xs : List Int) (w : World) (h : Rd w w.heap.size A n c xs) :
    Calls Try.prog 36 #[.slice A n c] w (Row1 (centreI xs) w) := by
  rcases hs : codedOk xs with _ | _
  · have HS := Lib.hid (centreI_no hs)
    go_enter Try.func36, Try.ntmps36
    go_wp2_with (go_at_call 70; refine (sCodedOk_c _ _ _ _ _ h).mono ?_; rintro e w' ⟨rfl, rfl⟩)
    go_ret
    exact ⟨_, _, _, rfl, by rw [HS.out]; exact OwnIn.empty_ _, (Below.refl _ _).alloc (Nat.le_refl _) _⟩
  · obtain ⟨f, rfl, hf⟩ := codedOk_ex hs
    obtain rfl : f.length = n := by rw [← h.len, ints_len]
    have HS := Lib.hid (centreI_ok hf)
    have h6 := hf.le6
    obtain ⟨i0, hi, hz0, hz1, hz2⟩ := info_parts int_info
    have hcp := h.cap
    have hmx := h.max
    unfold maxLen at hmx
    go_enter Try.func36, Try.ntmps36
    go_wp2_with (first
      | (go_at_call 70; refine (sCodedOk_c _ _ _ _ _ h).mono ?_; rintro e w' ⟨rfl, rfl⟩)
      | (at_make; refine wpList_make_full _ rfl _ _ 22 rfl w.heap.size 3 i0 (.int .i64 0) 1 Try.underlying22 hi hz0 hz1 _ _ _ _ (f.length + 1) rfl rfl (by omega) (by omega) (by rw [hz2]; omega) (by unfold maxLen; omega) (Nat.le_refl _) ?_; intro w1 hown1 hg1))
    have hb1 : Below w.heap.size w w1 := (Below.refl _ _).grown hg1 (Nat.le_refl _) (fun k hk => by cases hk)
    have ho1 : OwnIn w1 w.heap.size (w.heap.size + 1) (some ⟨w.heap.size, 0, none⟩) (f.length + 1) (f.length + 1) (ints (ctK f 0)) := by
      refine ⟨⟨by rw [ints_len, ctK_len], ?_⟩, fun k hk => by cases hk; exact Nat.lt_succ_self _⟩
      rw [ctK_zero, ints_replicate, List.map_replicate]
      simpa [toList_madeCells_one, Value.cells] using hown1
    clear hown1 hg1
    go_loopw [4] (fun i wr => ∃ j : Nat, j ≤ f.length ∧ i = .int .i64 j ∧ OwnIn wr w.heap.size (w.heap.size + 1) (some ⟨w.heap.size, 0, none⟩) (f.length + 1) (f.length + 1) (ints (ctK f j)) ∧ Below w.heap.size w wr) (fun i _ => f.length - (intOf i).toNat)
    case atStart => exact ⟨0, Nat.zero_le _, rfl, ho1, hb1⟩
    case round =>
      obtain ⟨j, hj, rfl, ho, hbw⟩ := hrel
      clear ho1 hb1 w1
      by_cases hlt : j < f.length
      · obtain ⟨b, off, rfl, hb, hcell0⟩ := h.at_ hlt
        have hcell : wr.cell? ⟨b, off + j, none⟩ = some (.int .i64 ((nx f j : Nat) : Int)) := by rw [hbw.cell (p := ⟨b, off + j, none⟩) hb, hcell0, gI_ints]
        have hx := nx_le hf hlt
        have hle := ctK_le (i := j) hx
        have hold : wr.cell? ⟨w.heap.size, nx f j, none⟩ = some (.int .i64 ((nx (ctK f j) (nx f j) : Nat) : Int)) := by rw [ho.cell (by omega), gI_ints]
        have hfz := ho.frozen (nx f j)
        have HO := Lib.hid ho
        have HSU := Lib.hid (ctK_succ hlt)
        have HB := Lib.hid hbw
        obtain ⟨y, hy⟩ : ∃ y, y = nx (ctK f j) (nx f j) := ⟨_, rfl⟩
        obtain ⟨x, hxe⟩ : ∃ x, x = nx f j := ⟨_, rfl⟩
        rw [← hy] at hold hle
        rw [← hxe] at hold hfz hcell hx
        have hx0 : (0 : Int) ≤ (x : Int) := by omega
        have hx1 : (x : Int) < (f.length : Int) + 1 := by omega
        have hw1 : IntKind.i64.wrap ((y : Int) + 1) = (y : Int) + 1 := IntWalk.i64_in _ (by omega)
        have HY := Lib.hid hy
        have HX := Lib.hid hxe
        clear hcell0 ho hbw hy hxe
        go_wp2_with fail
        go_still_tail 14, (by kernel_rfl)
        change wpList _ _ _ _ _ wr.drew
        have hfz2 : wr.drew.frozen? ⟨w.heap.size, x, none⟩ = false := hfz
        have hold2 : wr.drew.cell? ⟨w.heap.size, x, none⟩ = some (.int .i64 (y : Int)) := hold
        have HO2 : Hid (OwnIn wr.drew w.heap.size (w.heap.size + 1) (some ⟨w.heap.size, 0, none⟩) (f.length + 1) (f.length + 1) (ints (ctK f j))) := HO.out.dn 1
        have HB2 : Hid (Below w.heap.size w wr.drew) := bd HB.out 1
        clear hfz hold hcell HO HB
        generalize wr.drew = w2 at *
        have HST := Lib.hid (HO2.out.store x ((y : Int) + 1))
        go_wp2
        go_roundw
        case rel => exact ⟨j + 1, by omega, by go_num, by
          have := HST.out.1
          rw [← HSU.out, ints_set, ← HY.out, ← HX.out]
          rwa [show ((y : Int) + 1) = ((y + 1 : Nat) : Int) by omega] at this, HB2.out.trans (HST.out.2.below (by have := HB2.out.size; omega))⟩
        case measure => simp [intOf]; omega
      · obtain rfl : j = f.length := by omega
        have HO := Lib.hid ho
        clear ho
        go_wp2
        go_ret
        exact ⟨_, _, _, rfl, by rw [HS.out]; exact HO.out.wide (Nat.le_refl _) (by have := (HO.out.lt w.heap.size rfl).2.2; omega), hbw⟩

set_option maxRecDepth 100000 in
set_option maxHeartbeats 1600000 in
theorem walk_FnCentreOf (A : Option Addr) (n c : Nat) (bs : List Nat) (w : World) (h : RdB w w.heap.size A n c bs) :
    Calls Try.prog 8 #[.slice A n c] w fun e w' => e = .returned (.bool true) ∧ Below w.heap.size w w' := by
  have hcc := h.cap
  have hmm := h.max
  unfold maxLen at hmm
  by_cases hbig : 1048576 < n
  · go_enter Try.func8, Try.ntmps8
    go_wp2_with fail
    go_ret
    exact ⟨rfl, Below.refl _ _⟩
  go_enter Try.func8, Try.ntmps8
  go_wp2_with fail
  refine (drawCentreOf_c A n c bs _ h).mono ?_
  rintro e w1 ⟨A', n', c', xs, rfl, hO, hb⟩
  have hrd := hO.rd
  have hl := hO.len
  have hself := eqB_self (centreI xs)
  go_wp2_with fail
  refine (centreOf_c _ _ _ _ _ hrd).mono ?_
  rintro e w2 ⟨A2, n2, c2, rfl, hO2, hb2⟩
  have hrd2 := hrd.up hb2
  have hB2 := bt hb hb2
  go_wp2_with fail
  refine (sCentreOf_c _ _ _ _ _ hrd2).mono ?_
  rintro e w3 ⟨A3, n3, c3, rfl, hO3, hb3⟩
  have hr3 := hO2.rd.up hb3
  have hr4 := hO3.rd
  have hrd3 := hrd2.up hb3
  have hB3 := bt hB2 hb3
  clear hO3 hb3 hrd2 hB2 hb2 hb hrd hO
  go_wp2_with fail
  refine (sameInts_c _ _ _ _ _ _ _ _ _ hr3 hr4).mono ?_
  rintro e w4 ⟨rfl, m, rfl⟩
  rw [hself]
  have hr5 := hr3.dn m
  have hrd5 := hrd3.dn m
  have hB5 := bd hB3 m
  clear hr4 hr3 hrd3 hB3 hself
  rcases hs : codedOk xs with _ | _
  · have hl2 := hO2.len
    rw [centreI_no hs] at hl2
    obtain rfl : n2 = 0 := by simpa using hl2.symm
    clear hl2 hO2
    go_wp2_with (first
      | (go_at_call 37; refine (codedOk_c _ _ _ _ _ hrd5).mono ?_; rintro e w' ⟨rfl, rfl⟩)
      | (go_at_call 22; refine (alive_c _).mono ?_; rintro e w5 ⟨rfl, hb5⟩))
    go_ret
    exact ⟨rfl, bt hB5 hb5⟩
  · obtain ⟨c1, rfl, hc⟩ := codedOk_ex hs
    obtain rfl : c1.length = n' := by rw [← hl, ints_len]
    have h6 := hc.le6
    have hT := treeN_tree hc
    have hro := rootI_tree hT
    have hci := centreI_ok hc
    have hl2 := hO2.len
    rw [hci, ints_len] at hl2
    obtain rfl : n2 = c1.length + 1 := by rw [← hl2, ctN, ctK_len]
    rw [hci] at hr5
    have hcp := hr5.cap
    have hmx := hr5.max
    unfold maxLen at hmx
    have hne : ((c1.length : Int) + 1 == 0) = false := by rw [beq_eq_false_iff_ne]; omega
    clear hO2 hl2 hci hl
    go_wp2_with fail
    refine (treeFor_c _ _ _ _ _ hrd5).mono ?_
    rintro e w6 ⟨A6, n6, c6, rfl, hO6, hb6⟩
    rw [hs]
    rw [treeI_ok hc] at hO6
    have hlB := hO6.len
    rw [ints_len, treeN_len] at hlB
    obtain rfl : n6 = c1.length + 1 := hlB.symm
    have hrB := hO6.rd
    have hr6 := hr5.up hb6
    have hB6 := bt hB5 hb6
    clear hr5 hrd5 hB5 hO6 hb6 hlB hs
    obtain ⟨b, off, rfl, hbb, hcells⟩ := hr6.2.2.2 (by omega)
    have HC : Hid (∀ k, k < c1.length + 1 → w6.cell? ⟨b, off + k, none⟩ = some (.int .i64 (((c1.count k : Nat) : Nat) : Int))) := fun k hk => by
      rw [hcells k hk, gI_ints, ctN, nx_ctK (by omega), List.take_length]
    clear hcells
    go_wp2_with fail
    go_loopw [7] (fun i wr => ∃ k : Nat, k ≤ c1.length + 1 ∧ i = .int .i64 k ∧ Below w6.heap.size w6 wr) (fun i _ => c1.length + 1 - (intOf i).toNat)
    case atStart => exact ⟨0, Nat.zero_le _, rfl, Below.refl _ _⟩
    case round =>
      obtain ⟨k, hk, rfl, hbw⟩ := hrel
      have hrd7 := hrB.up hbw
      by_cases hlt : k < c1.length + 1
      · have hdl : decide ((k : Int) < (c1.length : Int) + 1) = true := decide_eq_true (by omega)
        have hk0 : (0 : Int) ≤ (k : Int) := by omega
        have hk1 : (k : Int) < (c1.length : Int) + 1 := by omega
        go_wp2_with fail
        refine (rootOf_c _ _ _ _ _ hrd7).mono ?_
        rintro e w8 ⟨rfl, hb8⟩
        rw [hro]
        have hrd8 := hrd7.up hb8
        have hbw8 := bt hbw hb8
        have hfc := fromI_count hT.map k
        rw [treeN_count hc] at hfc
        have hcl : c1.count k ≤ c1.length := List.count_le_length
        have hcell8 := (hbw8.cell (p := ⟨b, off + k, none⟩) hbb).trans (HC.out k hlt)
        clear hbw hb8 hrd7
        by_cases hr : rt c1 = k
        · have hq := eqq_bool hr
          rw [if_pos hr] at hfc
          have hwS : IntKind.i64.wrap (((c1.count k + 1 : Nat) : Int) - 1) = ((c1.count k : Nat) : Int) := by rw [show (((c1.count k + 1 : Nat) : Int) - 1) = ((c1.count k : Nat) : Int) by omega]; exact IntWalk.i64_in _ (by omega)
          have hwS2 : IntKind.i64.wrap (((c1.count k : Nat) : Int)) = ((c1.count k : Nat) : Int) := IntWalk.i64_in _ (by omega)
          clear hr
          go_wp2_with fail
          have hrd9 := hrd8.dn 1
          have hbw9 := bd hbw8 1
          have hcell9 : (w8.drewN 1).cell? ⟨b, off + k, none⟩ = some (.int .i64 ((c1.count k : Nat) : Int)) := hcell8
          clear hrd8 hbw8 hcell8
          generalize c1.count k = q at *
          go_region_held3 (fun w' => w'.cell? ⟨b, off + k, none⟩ = some (.int .i64 (q : Int))) (first | exact hcell9 | exact hcell10)
            (first | (go_at_call 39; refine (fromOf_c _ _ _ _ _ _ hrd9).mono ?_; rintro e w10 ⟨v, rfl, hOv, hb10⟩; obtain ⟨A9, c9, rfl, hO9⟩ := hOv.form; rw [hfc]; have hcell10 := (hb10.cell (p := ⟨b, off + k, none⟩) (Nat.lt_of_lt_of_le hbb hbw9.size)).trans hcell9; have hbw10 := bt hbw9 hb10; clear hOv hO9))
          all_goals
            go_wp2
            go_roundw
            case rel => exact ⟨k + 1, by omega, by go_num, hbw10⟩
            case measure => simp [intOf]; omega
        · have hq := neq_bool hr
          rw [if_neg hr, Nat.add_zero] at hfc
          have hwS : IntKind.i64.wrap (((c1.count k : Nat) : Int) - 0) = ((c1.count k : Nat) : Int) := by rw [show (((c1.count k : Nat) : Int) - 0) = ((c1.count k : Nat) : Int) by omega]; exact IntWalk.i64_in _ (by omega)
          have hwS2 : IntKind.i64.wrap (((c1.count k : Nat) : Int)) = ((c1.count k : Nat) : Int) := IntWalk.i64_in _ (by omega)
          clear hr
          go_wp2_with fail
          have hrd9 := hrd8.dn 1
          have hbw9 := bd hbw8 1
          have hcell9 : (w8.drewN 1).cell? ⟨b, off + k, none⟩ = some (.int .i64 ((c1.count k : Nat) : Int)) := hcell8
          clear hrd8 hbw8 hcell8
          generalize c1.count k = q at *
          go_region_held3 (fun w' => w'.cell? ⟨b, off + k, none⟩ = some (.int .i64 (q : Int))) (first | exact hcell9 | exact hcell10)
            (first | (go_at_call 39; refine (fromOf_c _ _ _ _ _ _ hrd9).mono ?_; rintro e w10 ⟨v, rfl, hOv, hb10⟩; obtain ⟨A9, c9, rfl, hO9⟩ := hOv.form; rw [hfc]; have hcell10 := (hb10.cell (p := ⟨b, off + k, none⟩) (Nat.lt_of_lt_of_le hbb hbw9.size)).trans hcell9; have hbw10 := bt hbw9 hb10; clear hOv hO9))
          all_goals
            go_wp2
            go_roundw
            case rel => exact ⟨k + 1, by omega, by go_num, hbw10⟩
            case measure => simp [intOf]; omega
      · obtain rfl : k = c1.length + 1 := by omega
        have hdl : decide (((c1.length + 1 : Nat) : Int) < (c1.length : Int) + 1) = false := decide_eq_false (by omega)
        have hq3 : ((c1.length : Int) + 1 == (c1.length : Int) + 1) = true := by simp
        go_wp2_with fail
        go_ret
        exact ⟨rfl, bt hB6 hbw⟩
end Go.Proofs.Ytlbiioncpeondaa
