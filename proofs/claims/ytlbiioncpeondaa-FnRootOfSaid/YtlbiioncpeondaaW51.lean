/- Walks: the law FnRootOf. -/
import Derived.Test.YtlbiioncpeondaaW50
namespace Go.Proofs.Ytlbiioncpeondaa
set_option linter.unusedVariables false
open Go.RowKit

set_option maxRecDepth 100000 in
set_option maxHeartbeats 1600000 in
theorem walk_FnRootOf (A : Option Addr) (n c : Nat) (bs : List Nat) (w : World) (h : RdB w w.heap.size A n c bs) :
    Calls Try.prog 12 #[.slice A n c] w fun e w' => e = .returned (.bool true) ∧ Below w.heap.size w w' := by
  have hcc := h.cap
  have hmm := h.max
  unfold maxLen at hmm
  by_cases hbig : 1048576 < n
  · go_enter Try.func12, Try.ntmps12
    go_wp2_with fail
    go_ret
    exact ⟨rfl, Below.refl _ _⟩
  go_enter Try.func12, Try.ntmps12
  go_wp2_with fail
  refine (drawRootOf_c A n c bs _ h).mono ?_
  rintro e w1 ⟨A', n', c', xs, rfl, hO, hb⟩
  have hrd := hO.rd
  have hl := hO.len
  have HQ : Hid (∀ r : Int, (r != r) = false) := fun r => by simp
  clear hO
  go_wp2_with fail
  refine (rootOf_c _ _ _ _ _ hrd).mono ?_
  rintro e w2 ⟨rfl, hb2⟩
  have hrd2 := hrd.up hb2
  have hB2 := bt hb hb2
  clear hrd hb hb2
  go_wp2_with fail
  refine (sRootOf_c _ _ _ _ _ hrd2).mono ?_
  rintro e w3 ⟨rfl, hb3⟩
  have hrd3 := hrd2.up hb3
  have hB3 := bt hB2 hb3
  clear hrd2 hB2 hb3
  rcases hs : treeOkI xs with _ | _
  · have hr := rootI_no hs
    rw [hr]
    have hq := HQ.out (-1)
    clear hr
    go_wp2_with (go_at_call 22; refine (alive_c _).mono ?_; rintro e w5 ⟨rfl, hb5⟩)
    go_ret
    exact ⟨rfl, bt hB3 hb5⟩
  · obtain ⟨f, rfl, hf, h1, h2⟩ := tree_ex hs
    obtain rfl : n' = f.length := by rw [← hl, ints_len]
    have hT := treeN_of hf h1 h2
    have hro := rootI_tree hT
    have h7 := hf.le7
    rw [hro]
    have hpi := powI_ok (t := f.length) hf (by omega)
    obtain ⟨r, hr⟩ : ∃ r, r = lo f 0 := ⟨_, rfl⟩
    rw [← hr] at hT ⊢
    have hq := HQ.out (r : Int)
    have hrn : ¬ ((r : Int) < 0) := by omega
    have hrl := hT.lt
    clear hl hro hr h1 h2 hs HQ
    go_wp2_with fail
    refine (powerOfI_c _ _ _ _ _ _ hrd3 (by omega)).mono ?_
    rintro e w4 ⟨A4, n4, c4, rfl, hO4, hb4⟩
    rw [hpi] at hO4
    have hl4 := hO4.len
    rw [ints_len, powN_len] at hl4
    obtain rfl : n4 = f.length := hl4.symm
    have hr4 := hO4.rd
    have hrd4 := hrd3.up hb4
    have hB4 := bt hB3 hb4
    have hcp := hr4.cap
    have hmx := hr4.max
    have hcp2 := hrd4.cap
    have hmx2 := hrd4.max
    unfold maxLen at hmx hmx2
    have hp := hf.pos
    obtain ⟨b, off, rfl, hbb, hcells⟩ := hr4.2.2.2 (by omega)
    have HC : Hid (∀ k, k < f.length → w4.cell? ⟨b, off + k, none⟩ = some (.int .i64 ((r : Nat) : Int))) := fun k hk => by
      rw [hcells k hk, gI_ints, nx_powN hk, hT.far hk (by omega)]
    obtain ⟨b2, off2, rfl, hbb2, hcell2⟩ := hrd4.at_ hrl
    rw [gI_ints, hT.fix] at hcell2
    clear hl4 hrd3 hB3 hb4 hO4 hcells hpi hr4
    go_wp2_with fail
    go_loopw [6] (fun i wr => ∃ k : Nat, k ≤ f.length ∧ i = .int .i64 k ∧ wr = w4) (fun i _ => f.length - (intOf i).toNat)
    case atStart => exact ⟨0, Nat.zero_le _, rfl, rfl⟩
    case round =>
      obtain ⟨k, hk, rfl, rfl⟩ := hrel
      by_cases hlt : k < f.length
      · have hck := HC.out k hlt
        go_wp2_with fail
        go_roundw
        case rel => exact ⟨k + 1, by omega, by go_num, by first | rfl | trivial⟩
        case measure => simp [intOf]; omega
      · obtain rfl : k = f.length := by omega
        have hqq : ((f.length : Int) == (f.length : Int)) = true := by simp
        have hqr : ((r : Int) == (r : Int)) = true := by simp
        go_wp2_with fail
        go_ret
        exact ⟨rfl, hB4⟩
end Go.Proofs.Ytlbiioncpeondaa
