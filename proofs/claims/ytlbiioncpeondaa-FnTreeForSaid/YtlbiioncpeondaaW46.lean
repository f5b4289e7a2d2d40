/- Walks: the law FnCodeOf. -/
import Derived.Test.YtlbiioncpeondaaW45
import Derived.Test.YtlbiioncpeondaaV8
namespace Go.Proofs.Ytlbiioncpeondaa
set_option linter.unusedVariables false
open Go.RowKit

theorem Rd.one {w : World} {B n c : Nat} {A : Option Addr} {xs : List Int} (h : Rd w B A n c xs) (h0 : 0 < n) : ∃ b off, A = some ⟨b, off, none⟩ ∧ b < B := by
  obtain ⟨b, off, e, hb, _⟩ := h.at_ h0
  exact ⟨b, off, e, hb⟩
set_option maxRecDepth 100000 in
set_option maxHeartbeats 1600000 in
theorem walk_FnCodeOf (A : Option Addr) (n c : Nat) (bs : List Nat) (w : World) (h : RdB w w.heap.size A n c bs) :
    Calls Try.prog 14 #[.slice A n c] w fun e w' => e = .returned (.bool true) ∧ Below w.heap.size w w' := by
  have hcc := h.cap
  have hmm := h.max
  unfold maxLen at hmm
  by_cases hbig : 1048576 < n
  · go_enter Try.func14, Try.ntmps14
    go_wp2_with fail
    go_ret
    exact ⟨rfl, Below.refl _ _⟩
  go_enter Try.func14, Try.ntmps14
  go_wp2_with fail
  refine (drawCodeOf_c A n c bs _ h).mono ?_
  rintro e w1 ⟨A', n', c', xs, rfl, hO, hb⟩
  have hrd := hO.rd
  have hl := hO.len
  have hself := eqB_self (codeI xs)
  rcases hs : treeOkI xs with _ | _
  · have hcf := codeI_no hs
    go_wp2_with fail
    refine (codeOf_c _ _ _ _ _ hrd).mono ?_
    rintro e w2 ⟨A2, n2, c2, rfl, hO2, hb2⟩
    rw [hs]
    have hrd2 := hrd.up hb2
    have hB2 := bt hb hb2
    go_wp2_with fail
    refine (sCodeOf_c _ _ _ _ _ hrd2).mono ?_
    rintro e w3 ⟨A3, n3, c3, rfl, hO3, hb3⟩
    rw [hs]
    have hr3 := hO2.rd.up hb3
    have hr4 := hO3.rd
    have hB3 := bt hB2 hb3
    have hl2 := hO2.len
    rw [hcf] at hl2
    obtain rfl : n2 = 0 := by simpa using hl2.symm
    clear hrd2 hB2 hb hb2 hb3 hO2 hO3 hcf hl2
    go_wp2_with fail
    refine (sameInts_c _ _ _ _ _ _ _ _ _ hr3 hr4).mono ?_
    rintro e w4 ⟨rfl, m, rfl⟩
    rw [hself]
    go_wp2_with (go_at_call 22; refine (alive_c _).mono ?_; rintro e w5 ⟨rfl, hb5⟩)
    go_ret
    exact ⟨rfl, bt (bd hB3 m) hb5⟩
  · obtain ⟨f, rfl, hf, h1, h2⟩ := tree_ex hs
    obtain ⟨c1, hc, rfl, he, hr⟩ := (treeN_of hf h1 h2).ex
    have hT := treeN_tree hc
    have hro := rootI_tree hT
    have hco := codeI_ok hs
    rw [he] at hco
    have h6 := hc.le6
    obtain rfl : n' = c1.length + 1 := by rw [← hl, ints_len, treeN_len]
    rw [hco] at hself
    clear he hr h1 h2 hf hl
    go_wp2_with fail
    refine (codeOf_c _ _ _ _ _ hrd).mono ?_
    rintro e w2 ⟨A2, n2, c2, rfl, hO2, hb2⟩
    rw [hs]
    rw [hco] at hO2
    have hrd2 := hrd.up hb2
    have hB2 := bt hb hb2
    go_wp2_with fail
    refine (sCodeOf_c _ _ _ _ _ hrd2).mono ?_
    rintro e w3 ⟨A3, n3, c3, rfl, hO3, hb3⟩
    rw [hs]
    rw [hco] at hO3
    have hr3 := hO2.rd.up hb3
    have hr4 := hO3.rd
    have hrd3 := hrd2.up hb3
    have hB3 := bt hB2 hb3
    have hl2 := hO2.len
    rw [ints_len] at hl2
    obtain rfl : n2 = c1.length := hl2.symm
    clear hrd hrd2 hB2 hb hb2 hb3 hO hO2 hO3 hl2 hs hco
    go_wp2_with fail
    refine (sameInts_c _ _ _ _ _ _ _ _ _ hr3 hr4).mono ?_
    rintro e w4 ⟨rfl, m, rfl⟩
    rw [hself]
    have hr5 := hr3.dn m
    have hrd5 := hrd3.dn m
    have hB5 := bd hB3 m
    clear hr3 hr4 hrd3 hB3 hself
    go_wp2_with fail
    refine (treeFor_c _ _ _ _ _ hr5).mono ?_
    rintro e w6 ⟨A6, n6, c6, rfl, hO6, hb6⟩
    have hok := codedOk_ints hc
    rw [hok]
    rw [treeI_ok hc] at hO6
    have hrB := hO6.rd
    have hr6 := hr5.up hb6
    have hrd6 := hrd5.up hb6
    have hB6 := bt hB5 hb6
    have hself2 := eqB_self (ints (treeN c1))
    have hcap := hr6.cap
    have hmax := hr6.max
    unfold maxLen at hmax
    have hlB := hO6.len
    rw [ints_len, treeN_len] at hlB
    obtain rfl : n6 = c1.length + 1 := hlB.symm
    clear hr5 hrd5 hB5 hO6 hb6 hlB
    have hw1 : IntKind.i64.wrap ((c1.length : Int) + 1 - 1) = (c1.length : Int) := by rw [show (c1.length : Int) + 1 - 1 = (c1.length : Int) by omega]; exact IntWalk.i64_in _ (by omega)
    have hw3 : IntKind.i64.wrap (c1.length : Int) = (c1.length : Int) := IntWalk.i64_in _ (by omega)
    have hq3 : ((c1.length : Int) == (c1.length : Int)) = true := by simp
    by_cases h0 : c1.length = 0
    · obtain rfl := nil_code (c := c1) (by omega)
      have K1 : ∀ n, Calls Try.prog 37 #[.slice A2 0 c2] (w6.drewN n) fun e w' => e = .returned (.bool true) ∧ ∃ m, w' = w6.drewN m := fun n => by
        have := qS (codedOk_c A2 0 c2 (ints []) _ (hr6.dn n))
        rwa [hok] at this
      have K2 : ∀ n, Calls Try.prog 35 #[.slice A6 1 c6, .slice A' 1 c'] (w6.drewN n) fun e w' => e = .returned (.bool true) ∧ ∃ m, w' = w6.drewN m := fun n => by
        have := qQ (sameInts_c A6 A' 1 c6 1 c' _ _ _ (hrB.dn n) (hrd6.dn n))
        rwa [hself2] at this
      clear h0 hw1 hw3 hq3 hr6 hrB hrd6 hself2 hok hro hT hcap
      go_wp2_with fail
      go_quiet ((first
        | (go_at_call 37; exact K1 _)
        | (go_at_call 35; exact K2 _)))
      go_wp2
      go_ret
      exact ⟨rfl, bd hB6 _⟩
    · obtain ⟨k, hk⟩ : ∃ k, k + 1 = c1.length := ⟨c1.length - 1, by omega⟩
      have hq : ((c1.length : Int) == 0) = false := by rw [beq_eq_false_iff_ne]; omega
      have hw2 : IntKind.i64.wrap ((c1.length : Int) - 1) = (k : Int) := by rw [show (c1.length : Int) - 1 = (k : Int) by omega]; exact IntWalk.i64_in _ (by omega)
      obtain ⟨b, off, rfl, hbb, hcell⟩ := hr6.at_ (k := k) (by omega)
      have hrk : nx c1 k = rt c1 := by unfold rt; rw [if_neg h0]; congr 1; omega
      rw [gI_ints, hrk] at hcell
      have hk0 : (0 : Int) ≤ (k : Int) := by omega
      have hk1 : (k : Int) < (c1.length : Int) := by omega
      have hk2 : (k : Int).toNat = k := by omega
      clear h0 hrk hk
      go_wp2_with fail
      have hr61 := hr6.dn 1
      have hrd61 := hrd6.dn 1
      have hrB1 := hrB.dn 1
      have hB61 := bd hB6 1
      have hcell1 : (w6.drewN 1).cell? ⟨b, off + k, none⟩ = some (.int .i64 ((rt c1 : Nat) : Int)) := hcell
      clear hr6 hrd6 hrB hB6 hcell
      go_region_held3 (fun w' => w'.cell? ⟨b, off + k, none⟩ = some (.int .i64 ((rt c1 : Nat) : Int))) (first | exact hcell1 | exact hcell8) (first
        | (go_at_call 37; refine (codedOk_c _ _ _ _ _ hr61).mono ?_; rintro e w' ⟨rfl, rfl⟩)
        | (go_at_call 26; refine (rootOf_c _ _ _ _ _ hrd61).mono ?_; rintro e w8 ⟨rfl, hb8⟩; have hcell8 := (hb8.cell (p := ⟨b, off + k, none⟩) hbb).trans hcell1; have hrB8 := hrB1.up hb8; have hrd8 := hrd61.up hb8; have hB8 := bt hB61 hb8)
        | (go_at_call 35; refine (sameInts_c _ _ _ _ _ _ _ _ _ hrB8 hrd8).mono ?_; rintro e w7 ⟨rfl, m7, rfl⟩))
      all_goals
        go_wp2
        go_ret
        exact ⟨rfl, bd hB8 _⟩
end Go.Proofs.Ytlbiioncpeondaa
