/- Walk: the law FnExactReadJournal. -/
import Derived.Test.YtnpjelekpkgbpaaDoorW127
import Derived.Test.YtnpjelekpkgbpaaDoorV14
namespace Go.Proofs.YtnpjelekpkgbpaaDoor
set_option linter.unusedVariables false
open Go.RowKit

theorem rj_len : ∀ (n : Nat) (l : List UInt8), l.length ≤ n → (rj l).1.length ≤ l.length ∧ (rj l).2 ≤ l.length
  | 0, l, h => by
    rw [List.length_eq_zero_iff.1 (Nat.le_zero.1 h)]
    exact ⟨Nat.le_refl _, Nat.le_refl _⟩
  | n + 1, l, h => by
    rcases spl_any 10 l with ⟨h0, _, _⟩ | ⟨u, v, hu, rfl, _, _⟩
    · rw [rj_none h0]; exact ⟨Nat.zero_le _, Nat.zero_le _⟩
    · rw [spl_len] at h ⊢
      cases hr : (rdV u).2 with
      | false => rw [rj_bad v hu hr]; exact ⟨Nat.zero_le _, Nat.zero_le _⟩
      | true =>
        have := rj_len n v (by omega)
        rw [rj_more v hu hr]
        simp only [List.length_cons]
        omega
set_option maxRecDepth 100000 in
set_option maxHeartbeats 1600000 in
theorem walk_FnExactReadJournal (s : ByteArray) (w : World) (hg : Glo w) (hs : s.size ≤ maxLen) :
    Calls Tryd.prog 7 #[.string s] w fun e w' => e = .returned (.bool true) ∧ Below w.heap.size w w' := by
  unfold maxLen at hs
  have hll : s.data.toList.length = s.size := by rw [Array.length_toList]; rfl
  by_cases hbig : (1048576 : Int) < (s.size : Int)
  · go_enter Tryd.func7, Tryd.ntmps7
    go_wp2_with fail
    go_ret
    exact ⟨rfl, Below.refl _ _⟩
  have K1 := fun W => sReadJournal_c s.data.toList W (by omega)
  have K2 := fun W (h : Glo W) => readJournal_c s.data.toList W (by omega) h
  rw [bl_of] at K1 K2
  obtain ⟨hn9, hm9⟩ := rj_len s.data.toList.length s.data.toList (Nat.le_refl _)
  have HJ : ∃ (ds : List Dl) (m : Nat), rj s.data.toList = (ds, m) := ⟨_, _, rfl⟩
  obtain ⟨us, m, hr⟩ := HJ
  unfold JrOut at K1 K2
  rw [hr] at K1 K2 hn9 hm9
  simp only at K1 K2 hn9 hm9
  obtain ⟨n, hn⟩ : ∃ n, us.length = n := ⟨_, rfl⟩
  rw [hn] at K1 K2 hn9
  generalize us.map toDd = ds at *
  have hnb : n ≤ 1048576 := by omega
  have hmb : m ≤ 1048576 := by omega
  clear hr hn hn9 hm9 hll
  go_enter Tryd.func7, Tryd.ntmps7
  go_wp2_with fail
  refine (K1 _).mono ?_
  rintro e w1 ⟨A1, c1, rfl, hO1, hb1⟩
  have hg1 := hg.up hb1
  have hz1 := hb1.size
  clear K1
  go_wp2_with fail
  refine (K2 _ hg1).mono ?_
  rintro e w2 ⟨A2, c2, rfl, hO2, hb2⟩
  have hB2 := bt hb1 hb2
  have hP2 := hO1.up hb2
  have hz2 := hb2.size
  have K3 := eqDeedS_c _ _ _ _ _ _ ds ds _ hO2.rd hP2.rd
  rw [eqDs_self] at K3
  clear hO1 hb1 hb2 hg1
  go_wp2_with fail
  refine K3.mono ?_
  rintro e w3 ⟨rfl, hb3⟩
  have hB3 := bt hB2 hb3
  have hP3 := hP2.up hb3
  have hO3 := hO2.up hb3
  have hz3 := hb3.size
  clear hP2 hO2 hb3 hB2 K3
  have K4 := markDeedS_c A2 n c2 1 w1.heap.size w2.heap.size ds _ hO3 (by omega) (by omega)
  go_wp2_with fail
  refine K4.mono ?_
  rintro e w4 ⟨rfl, hO4, hc4⟩
  have hB4 := hB3.trans (hc4.belowLo (B := w.heap.size) (by omega) (by omega))
  have hP4 := hP3.chg hc4 (.inl (Nat.le_refl _))
  have hz4 := hc4.size
  clear hP3 hO3 hc4 hB3 K4
  have K5 := heldDeedS_c A2 n c2 1 _ hO4.rd (by omega) (by omega)
  have hnn : (1 : Int) ≤ ((1 + 4 * n : Nat) : Int) := by omega
  have hnlt : ¬ ((1 + 4 * n : Nat) : Int) < 0 := by omega
  generalize hQ : ((1 + 4 * n : Nat) : Int) = Q at *
  go_wp2_with fail
  refine K5.mono ?_
  rintro e w5 ⟨rfl, hb5⟩
  have hB5 := bt hB4 hb5
  have hP5 := hP4.up hb5
  have hO5 := hO4.up hb5
  have hg5 := hg.up hB5
  clear hP4 hO4 hb5 hB4 K5
  go_wp2_with fail
  refine (K2 _ hg5).mono ?_
  rintro e w6 ⟨A6, c6, rfl, hO6, hb6⟩
  have hB6 := bt hB5 hb6
  have hP6 := hP5.up hb6
  have hM6 := hO5.up hb6
  have K7 := eqDeedS_c _ _ _ _ _ _ ds ds _ hO6.rd hP6.rd
  rw [eqDs_self] at K7
  clear hP5 hO5 hb6 hB5 hg5 K2
  go_wp2_with fail
  refine K7.mono ?_
  rintro e w7 ⟨rfl, hb7⟩
  have hB7 := bt hB6 hb7
  have hM7 := hM6.up hb7
  have K8 := heldDeedS_c A2 n c2 1 _ hM7.rd (by omega) (by omega)
  rw [hQ] at K8
  clear hb7 hB6 hM6 hP6 hO6 K7
  go_wp2_with fail
  refine K8.mono ?_
  rintro e w8 ⟨rfl, hb8⟩
  have hB8 := bt hB7 hb8
  go_wp2_with fail
  go_ret
  exact ⟨rfl, hB8⟩
end Go.Proofs.YtnpjelekpkgbpaaDoor
