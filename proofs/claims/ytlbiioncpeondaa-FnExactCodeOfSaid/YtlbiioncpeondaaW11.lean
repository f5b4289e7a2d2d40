/- Walks: the reader's pick, odd and opening (spec). -/
import Derived.Test.YtlbiioncpeondaaRdr
import Derived.Test.YtlbiioncpeondaaMem
import Derived.Test.YtlbiioncpeondaaRows
import Derived.Test.YtlbiioncpeondaaW1
import Derived.Deep.QuietTactic
import Derived.BigQuiet
import Derived.Outline
namespace Go.Proofs.Ytlbiioncpeondaa
set_option linter.unusedVariables false
open Go.RowKit

theorem bits_xor (a b : Nat) (ha : a < 9223372036854775808) (hb : b < 9223372036854775808) : bits .xor .i64 (a : Int) (b : Int) = ((a ^^^ b : Nat) : Int) := by
  have hx : a ^^^ b < 2 ^ 63 := Nat.xor_lt_two_pow (by omega) (by omega)
  show IntKind.i64.wrap ((BitVec.ofInt 64 (a : Int) ^^^ BitVec.ofInt 64 (b : Int)).toNat : Int) = _
  rw [BitVec.toNat_xor, ofInt64 a ha, ofInt64 b hb]
  exact wrapSmall _ (by omega)
/-- What pick comes to. -/
def Picked (w : World) (lo g p : Nat) (m : Int) (e : Ending) (w' : World) : Prop :=
  ∃ x : Nat, e = .returned (.int .i64 x) ∧ (1 ≤ m → (x : Int) < m) ∧ Rdr w' lo g (p + 1) ∧ Chg g (g + 1) w w'

theorem rdr_chg {w w' : World} {g : Nat} (hg : ∀ k, k ≠ g → w'.heap[k]? = w.heap[k]?) (h1 : w'.os = w.os) (h2 : w'.tape = w.tape) (h3 : w'.output = w.output) (h4 : w.heap.size ≤ w'.heap.size) : Chg g (g + 1) w w' :=
  ⟨h1, h2, h3, h4, fun k _ ho => hg k (by omega)⟩
theorem picked_of {w : World} {lo g p q n c x : Nat} {A : Option Addr} {bs : List Nat} {m : Int} {e : Ending} (k : Nat) (he : e = .returned (.int .i64 (x : Int))) (hx : 1 ≤ m → (x : Int) < m) (hq : q ≤ p) (hlo : lo ≤ g)
    (hg : w.heap[g]? = some (.cells #[.slice A n c, .int .i64 (q : Int)] 60 (0, 0))) (hr : RdB w lo A n c bs) (hn : n ≤ 2000) :
    Picked w lo g p m e ((w.setCell ⟨g, 1, none⟩ (.int .i64 ((q : Int) + 1))).drewN k) := by
  have hc : Chg g (g + 1) w (w.setCell ⟨g, 1, none⟩ (.int .i64 ((q : Int) + 1))) := (Chg.refl g (g + 1) w).setCell (p := ⟨g, 1, none⟩) (Nat.le_refl g) (Nat.lt_succ_self g) _
  have hlt : g < w.heap.size := (Array.getElem?_eq_some_iff.1 hg).1
  refine ⟨x, he, hx, ⟨A, n, c, bs, q + 1, by omega, hlo, ?_, ?_, hn⟩, hc.drewN k⟩
  · show (w.setCell ⟨g, 1, none⟩ (.int .i64 ((q : Int) + 1))).heap[g]? = _
    simp [World.setCell, Array.getElem?_modify, hg]
  · exact (hr.below (hc.below' hlo (by omega))).keep (fun _ _ => rfl)

set_option maxHeartbeats 800000 in
theorem pick_c (g lo p : Nat) (m : Int) (w : World) (h : Rdr w lo g p) (hp : p ≤ 1000000000) (hm : m ≤ 1000000000) :
    Calls Try.prog 85 #[.pointer (some ⟨g, 0, none⟩), .int .i64 m] w (Picked w lo g p m) := by
  obtain ⟨A, n, c, bs, q, hq, hlo, hg, hr, hn⟩ := h
  have hc0 : w.cell? ⟨g, 0, none⟩ = some (.slice A n c) := by simp [World.cell?, hg]
  have hc1 : w.cell? ⟨g, 1, none⟩ = some (.int .i64 (q : Int)) := by simp [World.cell?, hg]
  have hf1 : w.frozen? ⟨g, 1, none⟩ = false := by simp [World.frozen?, hg]
  have hW := Lib.hid hg
  have HR := Lib.hid hr
  have hlt : g < w.heap.size := (Array.getElem?_eq_some_iff.1 hg).1
  clear hg hr
  by_cases h1 : m < 1
  · go_enter Try.func85, Try.ntmps85
    go_wp2
    go_ret
    exact picked_of (x := 0) 0 rfl (fun h => by omega) hq hlo hW.out HR.out hn
  · have h1' : 1 ≤ m := by omega
    by_cases h2 : n = 0
    · subst h2
      go_enter Try.func85, Try.ntmps85
      go_wp2
      go_ret
      exact picked_of (x := 0) 0 rfl (fun h => by omega) hq hlo hW.out HR.out hn
    · have hne : ((n : Int) == 0) = false := by rw [beq_eq_false_iff_ne]; omega
      by_cases h3 : q < n
      · obtain ⟨b, off, rfl, hb, hcell⟩ := HR.out.at_ h3
        have hby := HR.out.byte q
        have hbg : b ≠ g := by omega
        go_enter Try.func85, Try.ntmps85
        go_wp2
        go_ret
        obtain ⟨M, rfl⟩ := Int.eq_ofNat_of_zero_le (show 0 ≤ m by omega)
        refine picked_of (x := nx bs q % M) 0 (by simp) (fun _ => ?_) hq hlo hW.out HR.out hn
        have := Nat.mod_lt (nx bs q) (show 0 < M by omega)
        omega
      · have hk1 := Nat.mod_lt q (show 0 < n by omega)
        have hk2 := Nat.mod_lt (q * 7 + 3) (show 0 < n by omega)
        obtain ⟨b, off, rfl, hb, hcells⟩ := HR.out.2.2.2.2 (by omega)
        have hcell1 := hcells _ hk1
        have hcell2 := hcells _ hk2
        have hby1 := HR.out.byte (q % n)
        have hby2 := HR.out.byte ((q * 7 + 3) % n)
        have hbg : b ≠ g := by omega
        clear hcells
        go_enter Try.func85, Try.ntmps85
        go_wp2
        have hd0 : (w.setCell ⟨g, 1, none⟩ (.int .i64 ((q : Int) + 1))).cell? ⟨g, 0, none⟩ = some (.slice (some ⟨b, off, none⟩) n c) := by
          rw [World.cell?_setCell_other _ _ _ _ (by simp)]; exact hc0
        have hd1 : (w.setCell ⟨g, 1, none⟩ (.int .i64 ((q : Int) + 1))).cell? ⟨b, off + q % n, none⟩ = some (.int .u8 (nx bs (q % n) : Int)) := by
          rw [World.cell?_setCell_other _ _ _ _ (by simp)]; exact hcell1
        have hd2 : (w.setCell ⟨g, 1, none⟩ (.int .i64 ((q : Int) + 1))).cell? ⟨b, off + (q * 7 + 3) % n, none⟩ = some (.int .u8 (nx bs ((q * 7 + 3) % n) : Int)) := by
          rw [World.cell?_setCell_other _ _ _ _ (by simp)]; exact hcell2
        have HP := Lib.hid (fun (x : Nat) (e : Ending) (k : Nat) he hx => picked_of (p := p) (x := x) (m := m) (e := e) k he hx hq hlo hW.out HR.out hn)
        generalize w.setCell ⟨g, 1, none⟩ (.int .i64 ((q : Int) + 1)) = W at hd0 hd1 hd2 HP ⊢
        generalize nx bs (q % n) = b1 at *
        generalize nx bs ((q * 7 + 3) % n) = b2 at *
        have hq' : q ≤ 1000000000 := by omega
        obtain ⟨M, rfl⟩ := Int.eq_ofNat_of_zero_le (show 0 ≤ m by omega)
        have e1 : ((q : Int).tmod (n : Int)) = ((q % n : Nat) : Int) := by rw [Int.tmod_eq_emod_of_nonneg (by omega)]; simp
        have e2 : (((q : Int) * 7 + 3).tmod (n : Int)) = (((q * 7 + 3) % n : Nat) : Int) := by rw [Int.tmod_eq_emod_of_nonneg (by omega)]; simp
        have e3 : ((q : Int).tdiv (n : Int)) = ((q / n : Nat) : Int) := by rw [Int.tdiv_eq_ediv_of_nonneg (by omega)]; simp
        have hi3 : q / n ≤ q := Nat.div_le_self _ _
        generalize q % n = i1 at *
        generalize (q * 7 + 3) % n = i2 at *
        generalize q / n = i3 at *
        obtain ⟨t, ht⟩ : ∃ t : Nat, t = b1 * 131 + b2 * 1117 + q * 29 + i3 * 53 := ⟨_, rfl⟩
        have htb : t ≤ 100000000000 := by omega
        have w1 : IntKind.i64.wrap (i1 : Int) = (i1 : Int) := IntWalk.i64_in _ (by omega)
        have w2 : IntKind.i64.wrap ((q : Int) * 7) = (q : Int) * 7 := IntWalk.i64_in _ (by omega)
        have w3 : IntKind.i64.wrap ((q : Int) * 7 + 3) = (q : Int) * 7 + 3 := IntWalk.i64_in _ (by omega)
        have w4 : IntKind.i64.wrap (i2 : Int) = (i2 : Int) := IntWalk.i64_in _ (by omega)
        have w5 : IntKind.i64.wrap (b1 : Int) = (b1 : Int) := IntWalk.i64_in _ (by omega)
        have w6 : IntKind.i64.wrap ((b1 : Int) * 131) = (b1 : Int) * 131 := IntWalk.i64_in _ (by omega)
        have w7 : IntKind.i64.wrap (b2 : Int) = (b2 : Int) := IntWalk.i64_in _ (by omega)
        have w8 : IntKind.i64.wrap ((b2 : Int) * 1117) = (b2 : Int) * 1117 := IntWalk.i64_in _ (by omega)
        have w9 : IntKind.i64.wrap ((b1 : Int) * 131 + (b2 : Int) * 1117) = (b1 : Int) * 131 + (b2 : Int) * 1117 := IntWalk.i64_in _ (by omega)
        have w10 : IntKind.i64.wrap ((q : Int) * 29) = (q : Int) * 29 := IntWalk.i64_in _ (by omega)
        have w11 : IntKind.i64.wrap ((b1 : Int) * 131 + (b2 : Int) * 1117 + (q : Int) * 29) = (b1 : Int) * 131 + (b2 : Int) * 1117 + (q : Int) * 29 := IntWalk.i64_in _ (by omega)
        have w12 : IntKind.i64.wrap (i3 : Int) = (i3 : Int) := IntWalk.i64_in _ (by omega)
        have w13 : IntKind.i64.wrap ((i3 : Int) * 53) = (i3 : Int) * 53 := IntWalk.i64_in _ (by omega)
        have w14 : IntKind.i64.wrap ((b1 : Int) * 131 + (b2 : Int) * 1117 + (q : Int) * 29 + (i3 : Int) * 53) = (t : Int) := by rw [IntWalk.i64_in _ (by omega)]; omega
        have hx := bits_xor t (t / 64) (by omega) (by omega)
        have hxc : ((t / 64 : Nat) : Int) = (t : Int) / 64 := by simp
        rw [hxc] at hx
        have hxl : t ^^^ t / 64 < 2 ^ 63 := Nat.xor_lt_two_pow (by omega) (by omega)
        generalize t ^^^ t / 64 = y at hx hxl
        have hi0 : (i1 : Int) < (n : Int) := by omega
        have hi02 : (i2 : Int) < (n : Int) := by omega
        have hN : (1 : Int) ≤ (n : Int) := by omega
        have hnz : ((n : Int) = 0) = False := by simp; omega
        clear hc0 hc1 hf1 hcell1 hcell2 ht hxc
        go_quiet (fail)
        clear w1 w2 w3 w4 w5 w6 w7 w8 w9 w10 w11 w12 w13 w14 e1 e2 e3
        go_wp2
        go_ret
        refine HP.out (y % M) _ nq (by simp) (fun _ => ?_)
        have := Nat.mod_lt y (show 0 < M by omega)
        omega
end Go.Proofs.Ytlbiioncpeondaa
