/- Walks: LotsOf (impl); the law FnTreeOk. -/
import Derived.Test.YtlbiioncpeondaaW45
import Derived.Test.YtlbiioncpeondaaM13
namespace Go.Proofs.Ytlbiioncpeondaa
set_option linter.unusedVariables false
open Go.RowKit

/-- a table just made, of noughts -/
theorem tab_start {w : World} {B n : Nat} (g : Nat → Nat) (h : w.ownsRow B 3 1 (.slice (some ⟨B, 0, none⟩) n n) n (madeCells #[Value.int .i64 0] n).toList) :
    OwnIn w B (B + 1) (some ⟨B, 0, none⟩) n n (ints (tab g n 0)) := by
  rw [tab_zero]
  refine ⟨⟨by rw [ints_len]; simp, ?_⟩, fun k hk => by cases hk; exact Nat.lt_succ_self _⟩
  rw [ints_replicate, List.map_replicate]
  simpa [toList_madeCells_one, Value.cells] using h
theorem OwnIn.all_ {w : World} {B n c : Nat} {A : Option Addr} {xs : List Int} {g : Nat} (h : OwnIn w B g A n c xs) (hg : g ≤ w.heap.size) : OwnIn w B w.heap.size A n c xs := h.wide (Nat.le_refl _) hg
def lotsN (f : List Nat) : List Nat := (List.range f.length).map (lo f)
theorem lotsN_len (f : List Nat) : (lotsN f).length = f.length := by simp [lotsN]
set_option maxRecDepth 100000 in
set_option maxHeartbeats 800000 in
theorem lotsOf_ok (A : Option Addr) (c : Nat) (f : List Nat) (w : World) (h : Rd w w.heap.size A f.length c (ints f)) (hf : MapN f) :
    Calls Try.prog 42 #[.slice A f.length c] w (Row1 (ints (lotsN f)) w) := by
  have h7 := hf.le7
  have hok := mapOk_ints hf
  have hcp := h.cap
  have hmx := h.max
  unfold maxLen at hmx
  obtain ⟨i0, hi, hz0, hz1, hz2⟩ := info_parts int_info
  go_enter Try.func42, Try.ntmps42
  go_wp2_with (first
    | (go_at_call 61; refine (mapOk_c _ _ _ _ _ h).mono ?_; rintro e w' ⟨rfl, rfl⟩)
    | (at_make; refine wpList_make_full _ rfl _ _ 22 rfl w.heap.size 3 i0 (.int .i64 0) 1 Try.underlying22 hi hz0 hz1 _ _ _ _ f.length rfl rfl rfl rfl (by rw [hz2]; omega) (by unfold maxLen; omega) (Nat.le_refl _) ?_))
  intro w1 hown1 hg1
  have hb1 : Below w.heap.size w w1 := (Below.refl _ _).grown hg1 (Nat.le_refl _) (fun k hk => by cases hk)
  have ho1 := tab_start (lo f) hown1
  clear hown1 hg1
  go_wp2_with fail
  go_loopw [13] (fun i wr => ∃ k : Nat, k ≤ f.length ∧ i = .int .i64 k ∧ OwnIn wr w.heap.size (w.heap.size + 1) (some ⟨w.heap.size, 0, none⟩) f.length f.length (ints (tab (lo f) f.length k)) ∧ Below w.heap.size w wr) (fun i _ => f.length - (intOf i).toNat)
  case atStart => exact ⟨0, Nat.zero_le _, rfl, ho1, hb1⟩
  case round =>
    obtain ⟨k, hk, rfl, ho, hbw⟩ := hrel
    clear ho1 hb1 w1
    by_cases hlt : k < f.length
    · have hli := loopI_ok hf hlt
      have hrd := h.up hbw
      go_wp2_with fail
      refine (loopOf_c _ _ _ _ _ _ hrd).mono ?_
      rintro e w2 ⟨rfl, hb2⟩
      rw [hli]
      have hO2 := ho.up hb2
      have hbw2 := bt hbw hb2
      have hold := hO2.cell (j := k) hlt
      have hfz := hO2.frozen k
      have HST := Lib.hid (hO2.store k (lo f k : Int))
      have HT := Lib.hid (tab_succ (lo f) hlt)
      have HB := Lib.hid hbw2
      clear ho hbw hrd hb2 hO2 hbw2 hli
      go_wp2_with fail
      go_roundw
      case rel => exact ⟨k + 1, by omega, by go_num, by have := HST.out.1; rwa [← ints_set, HT.out] at this, HB.out.trans (HST.out.2.below' (Nat.le_refl _) (by have := HB.out.size; omega))⟩
      case measure => simp [intOf]; omega
    · obtain rfl : k = f.length := by omega
      have HO := Lib.hid ho
      clear ho
      go_wp2_with fail
      go_ret
      exact ⟨_, _, _, rfl, by have := HO.out; rw [tab_all] at this; exact this.all_ (by have := (HO.out.lt w.heap.size rfl).2.2; omega), hbw⟩

set_option maxRecDepth 100000 in
set_option maxHeartbeats 1600000 in
theorem walk_FnTreeOk (A : Option Addr) (n c : Nat) (bs : List Nat) (w : World) (h : RdB w w.heap.size A n c bs) :
    Calls Try.prog 9 #[.slice A n c] w fun e w' => e = .returned (.bool true) ∧ Below w.heap.size w w' := by
  have hcc := h.cap
  have hmm := h.max
  unfold maxLen at hmm
  by_cases hbig : 1048576 < n
  · go_enter Try.func9, Try.ntmps9
    go_wp2_with fail
    go_ret
    exact ⟨rfl, Below.refl _ _⟩
  go_enter Try.func9, Try.ntmps9
  go_wp2_with fail
  refine (drawTreeOk_c A n c bs _ h).mono ?_
  rintro e w1 ⟨A', n', c', xs, rfl, hO, hb⟩
  have hrd := hO.rd
  have hl := hO.len
  clear hO
  go_wp2_with fail
  refine (treeOk_c _ _ _ _ _ hrd).mono ?_
  rintro e w2 ⟨rfl, hb2⟩
  have hrd2 := hrd.up hb2
  have hB2 := bt hb hb2
  clear hrd hb hb2
  go_wp2_with fail
  refine (sTreeOk_c _ _ _ _ _ hrd2).mono ?_
  rintro e w3 ⟨rfl, hb3⟩
  have hrd3 := hrd2.up hb3
  have hB3 := bt hB2 hb3
  clear hrd2 hB2 hb3
  rcases hm : mapOk xs with _ | _
  · have ht : treeOkI xs = false := by unfold treeOkI; rw [loopsI_no hm]; rfl
    rw [ht]
    go_wp2_with (first
      | (go_at_call 41; refine (sMapOk_c _ _ _ _ _ hrd3).mono ?_; rintro e w' ⟨rfl, rfl⟩)
      | (go_at_call 22; refine (alive_c _).mono ?_; rintro e w5 ⟨rfl, hb5⟩))
    go_ret
    exact ⟨rfl, bt hB3 hb5⟩
  · obtain ⟨f, rfl, hf⟩ := mapOk_ex hm
    obtain rfl : n' = f.length := by rw [← hl, ints_len]
    have h7 := hf.le7
    have h1 := hf.pos
    have ht := treeB_one hf
    rw [ht]
    clear hl ht
    have HQ : Hid (∀ b : Bool, (b != b) = false) := fun b => by cases b <;> rfl
    obtain ⟨tb, htb⟩ : ∃ tb, oneK f f.length = tb := ⟨_, rfl⟩
    have hbb := HQ.out tb
    rw [htb]
    have HTB := Lib.hid htb
    clear htb
    go_wp2_with fail
    refine (sMapOk_c _ _ _ _ _ hrd3).mono ?_
    rintro e w' ⟨rfl, rfl⟩
    rw [hm]
    go_wp2_with fail
    refine (lotsOf_ok _ _ _ _ hrd3 hf).mono ?_
    rintro e w4 ⟨A4, n4, c4, rfl, hO4, hb4⟩
    have hl4 := hO4.len
    rw [ints_len, lotsN_len] at hl4
    obtain rfl : n4 = f.length := hl4.symm
    have hrd4 := hrd3.up hb4
    have hB4 := bt hB3 hb4
    have hr4 := hO4.rd
    clear hl4 hrd3 hB3 hb4 hO4 hm
    go_wp2_with fail
    have hrd5 := hrd4.dn 1
    have hB5 := bd hB4 1
    have hr5 := hr4.dn 1
    clear hrd4 hB4 hr4
    have hlo := lo_lt hf (k := 0) h1
    have hli := loopI_ok hf (k := 0) h1
    obtain ⟨b, off, rfl, hbb5, hcell5⟩ := hrd5.at_ hlo
    rw [gI_ints] at hcell5
    have hk0 : (0 : Int) ≤ (lo f 0 : Int) := by omega
    have hk1 : (lo f 0 : Int) < (f.length : Int) := by omega
    have hnl := hf.has _ hlo
    have hq3 : ((f.length : Int) == (f.length : Int)) = true := by simp
    obtain ⟨r, hr⟩ : ∃ r, r = lo f 0 := ⟨_, rfl⟩
    rw [← hr] at hcell5 hk0 hk1
    have hli2 : loopI (ints f) 0 = (r : Int) := by rw [hr]; exact hli
    have HR := Lib.hid hr
    clear hr hli
    go_region_held3 (fun w' => w'.cell? ⟨b, off + r, none⟩ = some (.int .i64 ((nx f r : Nat) : Int))) (first | exact hcell5 | exact hcell6 | exact hcell7) (first
      | (go_at_call 43; refine (sLoopOf_c _ _ _ _ 0 _ hrd5).mono ?_; rintro e w6 ⟨rfl, hb6⟩; have hrd6 := hrd5.up hb6; have hcell6 := (hb6.cell (p := ⟨b, off + r, none⟩) hbb5).trans hcell5; rw [hli2])
      | (go_at_call 43; refine (sLoopOf_c _ _ _ _ 0 _ hrd6).mono ?_; rintro e w7 ⟨rfl, hb7⟩; have hcell7 := (hb7.cell (p := ⟨b, off + r, none⟩) (Nat.lt_of_lt_of_le hbb5 hb6.size)).trans hcell6; rw [hli2]))
    have hone : ((nx f r : Int) == (r : Int)) = oneK f 0 := by rw [HR.out, oneK, Bool.eq_iff_iff, beq_iff_eq, beq_iff_eq]; omega
    have hr7 := (hr5.up hb6).up hb7
    have hrd7 := hrd6.up hb7
    have hB7 := bt hB5 (bt hb6 hb7)
    have hcp7 := hr7.cap
    have hmx7 := hr7.max
    unfold maxLen at hmx7
    rw [hone]
    have HR7 := Lib.hid hr7
    obtain ⟨b2, off2, rfl, hbb2, hcells⟩ := hr7.2.2.2 (by omega)
    have HC : Hid (∀ k, k < f.length → w7.cell? ⟨b2, off2 + k, none⟩ = some (.int .i64 ((lo f k : Nat) : Int))) := fun k hk => by
      rw [hcells k hk, gI_ints, lotsN, nx_maps hk]
    clear hcells hr5 hrd5 hB5 hb6 hb7 hcell5 hcell6 hcell7 hr7 hrd6 hli2 hone
    go_wp2_with fail
    go_loopw [6, 7] (fun o i wr => ∃ (k m : Nat), k ≤ f.length ∧ i = .int .i64 k ∧ o = .bool (oneK f k) ∧ wr = w7.drewN m) (fun o i _ => f.length - (intOf i).toNat)
    case atStart => exact ⟨0, 0, Nat.zero_le _, rfl, rfl, rfl⟩
    case round =>
      obtain ⟨k, m, hk, rfl, rfl, rfl⟩ := hrel
      by_cases hlt : k < f.length
      · have hck := HC.out k hlt
        have hc0 := HC.out 0 h1
        rw [Nat.add_zero] at hc0
        have hsu : oneK f (k + 1) = (oneK f k && (lo f k == lo f 0)) := rfl
        have hji : (lo f k == lo f 0) = ((lo f k : Int) == (lo f 0 : Int)) := by rw [Bool.eq_iff_iff, beq_iff_eq, beq_iff_eq]; omega
        rw [hji] at hsu
        have hk2 : (0 : Int) ≤ (k : Int) := by omega
        have hk3 : (k : Int) < (f.length : Int) := by omega
        have hk4 : (0 : Int) < (f.length : Int) := by omega
        generalize lo f k = p at *
        generalize lo f 0 = q at *
        rcases ho : oneK f k with _ | _
        · have HS : Hid (oneK f (k + 1) = false) := by unfold Hid; rw [hsu, ho]; rfl
          clear hsu hji ho
          go_wp2_with fail
          go_quiet (fail)
          go_wp2_with fail
          go_roundw
          case rel => exact ⟨k + 1, _, by omega, by go_num, by rw [HS.out], by first | rfl | exact World.drewN_drewN ..⟩
          case measure => simp [intOf]; omega
        · have HS : Hid (oneK f (k + 1) = ((p : Int) == (q : Int))) := by unfold Hid; rw [hsu, ho]; rfl
          clear hsu hji ho
          go_wp2_with fail
          go_quiet (fail)
          go_wp2_with fail
          go_roundw
          case rel => exact ⟨k + 1, _, by omega, by go_num, by rw [HS.out], by first | rfl | exact World.drewN_drewN ..⟩
          case measure => simp [intOf]; omega
      · obtain rfl : k = f.length := by omega
        rw [HTB.out]
        have htt : (tb == tb) = true := by cases tb <;> rfl
        obtain ⟨i0, hi, hz0, hz1, hz2⟩ := info_parts int_info
        have hrd8 := hrd7.dn m
        have hB8 := bd hB7 m
        generalize w7.drewN m = W8 at *
        obtain ⟨w9, hrun, hown9, hg9⟩ := run_make_full (P := Try.prog) (w := W8) W8.heap.size 22 3 i0 (.int .i64 0) 1 Try.underlying22 hi hz0 hz1 .i64 .i64 f.length (by rw [hz2]; omega) (by unfold maxLen; omega) (Nat.le_refl _)
        have hb9 : Below W8.heap.size W8 w9 := (Below.refl _ _).grown hg9 (Nat.le_refl _) (fun k hk => by cases hk)
        have hO9 := tab_start (fun _ => 0) (by simpa [Value.cells] using hown9)
        rw [tab_zero] at hO9
        have hr9 := hO9.rd
        have hz := treeOkI_tree (zero_tree f.length h1 h7)
        clear hown9 hg9 hO9
        go_wp2_with fail
        refine (treeOk_c _ _ _ _ _ hr9).mono ?_
        rintro e w10 ⟨rfl, hb10⟩
        rw [hz]
        go_wp2_with fail
        go_ret
        exact ⟨rfl, bt hB8 (bt hb9 hb10)⟩
end Go.Proofs.Ytlbiioncpeondaa
