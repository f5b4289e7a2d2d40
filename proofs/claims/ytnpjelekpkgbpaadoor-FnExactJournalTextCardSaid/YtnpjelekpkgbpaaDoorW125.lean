/- Walk: the law FnExactJournalText. -/
import Derived.Test.YtnpjelekpkgbpaaDoorW124
import Derived.Test.YtnpjelekpkgbpaaDoorV14
namespace Go.Proofs.YtnpjelekpkgbpaaDoor
set_option linter.unusedVariables false
open Go.RowKit

set_option maxRecDepth 100000 in
set_option maxHeartbeats 1600000 in
theorem walk_FnExactJournalText (E : Option Addr) (N C : Nat) (ds : List Dd) (w : World) (ht : Tb w) (h6 : 6 ≤ w.heap.size) (E0 : RdE w w.heap.size E N C ds ∧ ∀ k, k < N → (dS ds k).size ≤ maxLen) :
    Calls Tryd.prog 4 #[.slice E N C] w fun e w' => e = .returned (.bool true) ∧ Below w.heap.size w w' := by
  obtain ⟨hE, hS⟩ := E0
  have hl := hE.len
  go_enter Tryd.func4, Tryd.ntmps4
  go_wp2_with fail
  refine (szDeedS_c E N C ds 1048576 _ hE hS (by omega) (by omega)).mono ?_
  rintro e w1 ⟨r, rfl, hb1, hr0, hr1, hr2⟩
  by_cases hneg : r < 0
  · go_wp2_with fail
    go_ret
    exact ⟨rfl, hb1⟩
  obtain ⟨hfit, hfs⟩ := hr2 (by omega)
  have hN : N ≤ 1048576 := by omega
  have hsz : ∀ k, k < N → (dS ds k).size ≤ 1000000000000 := fun k hk => by have := hfs k (by omega); omega
  have hE1 := hE.up hb1
  clear hr2 hfit hfs hS
  go_wp2_with fail
  refine (toDeedS_c E N C ds _ hE1 hN).mono ?_
  rintro e w2 ⟨rfl, hO2, hb2⟩
  have hB2 := bt hb1 hb2
  have hE2 := hE1.up hb2
  go_wp2_with fail
  refine (sJournalText_c _ N N ds _ hO2.rd hN hsz).mono ?_
  rintro e w3 ⟨rfl, hb3⟩
  have hB3 := bt hB2 hb3
  have hE3 := hE2.up hb3
  clear hO2 hb2 hb3 hE1 hE2 hB2
  go_wp2_with fail
  refine (toDeedS_c E N C ds _ hE3 hN).mono ?_
  rintro e w4 ⟨rfl, hO4, hb4⟩
  have hB4 := bt hB3 hb4
  have hE4 := hE3.up hb4
  have ht4 := ht.below hB4 h6
  have hz4 := hB4.size
  go_wp2_with fail
  refine (journalText_c _ N N ds _ hO4.rd hN hsz ht4 (by omega)).mono ?_
  rintro e w5 ⟨rfl, hb5⟩
  have hB5 := bt hB4 hb5
  have hE5 := hE4.up hb5
  have hR5 := hO4.rd.up hb5
  clear hO4 hb4 hb5 hE3 hE4 hB3 hB4 ht4
  generalize jtX ds = T at *
  go_wp2_with fail
  refine (toDeedS_c E N C ds _ hE5 hN).mono ?_
  rintro e w6 ⟨rfl, hO6, hb6⟩
  have hB6 := bt hB5 hb6
  have hR6 := hR5.up hb6
  have K7 := eqDeedS_c _ _ N N N N ds ds _ hR6 hO6.rd
  rw [eqDs_self] at K7
  clear hE5 hR5 hB5 hb6
  go_wp2_with fail
  refine K7.mono ?_
  rintro e w7 ⟨rfl, hb7⟩
  have hB7 := bt hB6 hb7
  go_wp2_with fail
  go_ret
  exact ⟨rfl, hB7⟩
end Go.Proofs.YtnpjelekpkgbpaaDoor
