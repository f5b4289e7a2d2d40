/- Walks: JournalText of the program; the law FnExactJournalText. -/
import Derived.Test.YtoinlkdmfclnbaaGreatDoorV18
import Derived.Test.YtoinlkdmfclnbaaGreatDoorW111
import Derived.Test.YtoinlkdmfclnbaaGreatDoorBu
import Derived.Test.YtoinlkdmfclnbaaGreatDoorV14
namespace Go.Proofs.YtoinlkdmfclnbaaGreatDoor
set_option linter.unusedVariables false
open Go.RowKit

theorem BuilderAt_up {T e : TypeId} {B b : Nat} {p : Value} {bs : List Value} {w w' : World} (h : Lib.BuilderAt T e B b p bs w) (hb : Below w.heap.size w w') : Lib.BuilderAt T e B b p bs w' := by
  have hlt := h.lt
  obtain ⟨hB, v, hc, hown, hne⟩ := h
  refine ⟨hB, v, (hb.block b hlt).trans hc, ⟨hown.1, ?_⟩, hne⟩
  rcases hown.2 with h0 | ⟨g, cap, cur, e, hg, hh, r⟩
  · exact .inl h0
  · exact .inr ⟨g, cap, cur, e, hg, by rw [hb.block g (Array.getElem?_eq_some_iff.1 hh).1]; exact hh, r⟩
theorem IsBuilder_up {T e : TypeId} {B b : Nat} {bs : List Value} {w w' : World} (h : Lib.IsBuilder T e B b bs w) (hb : Below w.heap.size w w') : Lib.IsBuilder T e B b bs w' :=
  h.elim (fun h => .inl (BuilderAt_up h hb)) (fun h => .inr (BuilderAt_up h hb))
set_option maxRecDepth 100000 in
set_option maxHeartbeats 1600000 in
theorem journalText_c (A : Option Addr) (n c : Nat) (ds : List Dd) (w : World) (h : RdE w w.heap.size A n c ds) (hn : n ≤ 1048576) (hs : ∀ k, k < n → (dS ds k).size ≤ 1000000000000) (ht : Tb w) (h6 : 6 ≤ w.heap.size) :
    Calls Tryz.prog 37 #[.slice A n c] w (TextOf (jtX ds) w) := by
  have hl := h.len
  have HL := Lib.hid hl
  have hc := h.cap
  have hm := h.max
  unfold maxLen at hm
  have hU0 : Lib.IsBuilder 104 5 w.heap.size w.heap.size (Lib.byteCells (lns ((ds.take 0).map frDd))) (w.alloc (.cells #[.pointer none, .slice none 0 0] 104)) :=
    .inl ⟨Nat.le_refl _, .slice none 0 0, heap_alloc_new w _, World.ownsRow_nil _ _ _ _, by intro h; cases h⟩
  have hb0 := below_new w (.cells #[.pointer none, .slice none 0 0] 104)
  go_enter Tryz.func37, Tryz.ntmps37
  go_wp2_with fail
  generalize w.alloc (.cells #[.pointer none, .slice none 0 0] 104) = w1 at *
  go_loopw [9] (fun i wr => ∃ k : Nat, k ≤ n ∧ i = .int .i64 (k : Int) ∧ Lib.IsBuilder 104 5 w.heap.size w.heap.size (Lib.byteCells (lns ((ds.take k).map frDd))) wr ∧ (∀ j, j < k → dtD (frDd (dG ds j)) ≠ []) ∧ Below w.heap.size w wr) (fun i _ => n - (intOf i).toNat)
  case atStart => exact ⟨0, Nat.zero_le _, rfl, hU0, fun j hj => absurd hj (Nat.not_lt_zero _), hb0⟩
  case round =>
    clear hU0 hb0
    obtain ⟨k, hk, rfl, hU, hno, hbw⟩ := hrel
    have hr := h.up hbw
    have hzw := hbw.size
    by_cases hlt : k < n
    · obtain ⟨b, off, rfl, hbE, e0, e1, e2, e3⟩ := hr.at_ hlt
      have hk0 : (0 : Int) ≤ (k : Int) := Int.natCast_nonneg _
      have hk1 : (k : Int) < (n : Int) := by omega
      have K1 := fun W => deedText_c (dK ds k) (dA ds k) (dB ds k) (dS ds k) W (hs k hlt)
      rw [dtX_at] at K1
      have hz := dtD_len (frDd (dG ds k))
      have hzl : (Lib.byteCells (lns ((ds.take k).map frDd))).length ≤ 22020096 := by
        have := lns_len ((ds.take k).map frDd)
        rw [Lib.byteCells_length]
        rw [List.length_map, List.length_take] at this
        omega
      have hF := Four.made wr 55 (dK ds k) (dA ds k) (dB ds k) (dS ds k)
      have hbA := below_new wr (.cells #[.int .i64 (dK ds k), .int .i64 (dA ds k), .int .i64 (dB ds k), .string (dS ds k)] 55)
      have hB2 := bt hbw hbA
      have hU2 := IsBuilder_up hU hbA
      have ht2 := ht.below hB2 h6
      have hz2 := hB2.size
      obtain ⟨_, f0, f1, f2, f3⟩ := id hF
      by_cases hE : dtD (frDd (dG ds k)) = []
      · have HV := Lib.hid (jtX_no (by rw [hl]; exact hlt) hE)
        rw [hE] at K1
        rw [show bl [] = (⟨#[]⟩ : ByteArray) from rfl] at K1
        clear hno hE hz hl hU hU2 hzl hbA hF
        go_wp2_with fail
        refine (K1 _ ht2 (by omega)).mono ?_
        rintro e w3 ⟨rfl, hb3⟩
        have hB3 := bt hB2 hb3
        clear hb3 e0 e1 e2 e3 f0 f1 f2 f3 hr K1 ht2 hB2
        go_wp2_with fail
        go_ret
        rw [HV.out]
        exact ⟨rfl, hB3⟩
      · have HN : Hid (∀ j, j < k + 1 → dtD (frDd (dG ds j)) ≠ []) := Lib.hid (fun j hj => by
          rcases Nat.lt_or_ge j k with h1 | h1
          · exact hno j h1
          · obtain rfl : j = k := by omega
            exact hE)
        have HT : Hid (Lib.byteCells (lns ((ds.take (k + 1)).map frDd)) = Lib.byteCells (lns ((ds.take k).map frDd)) ++ Lib.strCells (bl (dtD (frDd (dG ds k)))) ++ [.int .u8 10]) := Lib.hid (by
          rw [take_fr (by rw [hl]; exact hlt), lns_snoc]
          unfold Lib.byteCells Lib.strCells
          rw [bl_list, List.map_append, List.map_append, List.append_assoc]
          rfl)
        have qT : ((bl (dtD (frDd (dG ds k)))).toList == []) = false := by
          rw [show (bl (dtD (frDd (dG ds k)))).toList = dtD (frDd (dG ds k)) from by rw [ByteArray.toList_eq, bl_list]]
          exact beq_eq_false_iff_ne.2 hE
        have qU : ¬ (bl (dtD (frDd (dG ds k)))).toList = [] := by
          rw [show (bl (dtD (frDd (dG ds k)))).toList = dtD (frDd (dG ds k)) from by rw [ByteArray.toList_eq, bl_list]]
          exact hE
        have qS : (bl (dtD (frDd (dG ds k)))).toList.isEmpty = false := by
          rcases h9 : (bl (dtD (frDd (dG ds k)))).toList with _ | _
          · exact absurd h9 qU
          · rfl
        have hzt : (bl (dtD (frDd (dG ds k)))).size ≤ 20 := by rw [bl_size]; exact hz
        generalize bl (dtD (frDd (dG ds k))) = T at *
        generalize Lib.byteCells (lns ((ds.take k).map frDd)) = O at *
        clear hno hE hz hl hU hbA hF
        go_wp2_with fail
        generalize wr.alloc (.cells #[.int .i64 (dK ds k), .int .i64 (dA ds k), .int .i64 (dB ds k), .string (dS ds k)] 55) = w2 at *
        refine (K1 _ ht2 (by omega)).mono ?_
        rintro e w3 ⟨rfl, hb3⟩
        have hU3 := IsBuilder_up hU2 hb3
        have hB3 := bt hB2 hb3
        have hz3 := hB3.size
        clear hb3 e0 e1 e2 e3 f0 f1 f2 f3 hr K1 ht2 hB2 hU2
        go_wp2_with fail
        refine (bWriteString w.heap.size w.heap.size O T w3 hU3 (by omega) hz3).mono ?_
        rintro e w4 ⟨rfl, hU4, hb4⟩
        have hB4 := hB3.trans hb4
        have hz4 := hB4.size
        clear hU3 hb4
        go_wp2_with fail
        refine (bWriteByte w.heap.size w.heap.size (O ++ Lib.strCells T) 10 w4 (.inr hU4) (by rw [List.length_append, Lib.strCells_length]; omega) hz4).mono ?_
        rintro e w5 ⟨rfl, hU5, hb5⟩
        have hB5 := hB4.trans hb5
        clear hU4 hb5
        go_wp2_with fail
        go_roundw
        case rel => exact ⟨k + 1, by omega, by go_num, by rw [HT.out]; exact .inr hU5, HN.out, hB5⟩
        case measure => simp [intOf]; omega
    · obtain rfl : k = n := by omega
      have HV : Hid (jtX ds = bl (lns ((ds.take k).map frDd))) := Lib.hid (by
        rw [List.take_of_length_le (by rw [hl]; exact Nat.le_refl _)]
        exact jtX_yes (fun j hj => hno j (by omega)))
      have K9 := Builder_String_any w.heap.size w.heap.size _ wr hU hzw
      clear hno hU
      go_wp2_with fail
      refine K9.mono ?_
      rintro e w5 ⟨rfl, hb5⟩
      have hB5 := hbw.trans hb5
      go_wp2_with fail
      go_ret
      rw [HV.out]
      exact ⟨by rw [List.map_take]; rfl, hB5⟩
end Go.Proofs.YtoinlkdmfclnbaaGreatDoor
