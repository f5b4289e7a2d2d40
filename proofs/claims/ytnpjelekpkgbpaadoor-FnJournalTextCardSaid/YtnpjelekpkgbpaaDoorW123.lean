/- Walk: JournalText of the reference. -/
import Derived.Test.YtnpjelekpkgbpaaDoorW110
namespace Go.Proofs.YtnpjelekpkgbpaaDoor
set_option linter.unusedVariables false
open Go.RowKit

def frDd (d : Dd) : Dl := (d.1, d.2.1, d.2.2.1, d.2.2.2.data.toList)
theorem dtX_fr (kd a b : Int) (s : ByteArray) : dtX kd a b s = bl (dtD (frDd (kd, a, b, s))) := rfl
theorem dtX_at (ds : List Dd) (k : Nat) : dtX (dK ds k) (dA ds k) (dB ds k) (dS ds k) = bl (dtD (frDd (dG ds k))) := rfl
theorem take_fr {ds : List Dd} {k : Nat} (h : k < ds.length) : (ds.take (k + 1)).map frDd = (ds.take k).map frDd ++ [frDd (dG ds k)] := by
  rw [List.take_succ_eq_append_getElem h, List.map_append, dG_get h]; rfl
theorem mem_fr {ds : List Dd} {k : Nat} (h : k < ds.length) : frDd (dG ds k) ∈ ds.map frDd := by
  rw [dG_get h]
  exact List.mem_map_of_mem (List.getElem_mem h)
/-- the text of a journal -/
def jtX (ds : List Dd) : ByteArray := bl (jtL (ds.map frDd))
theorem jtX_no {ds : List Dd} {k : Nat} (h : k < ds.length) (hd : dtD (frDd (dG ds k)) = []) : jtX ds = ⟨#[]⟩ := by
  unfold jtX; rw [jtL_no (mem_fr h) hd]; rfl
theorem jtX_yes {ds : List Dd} (h : ∀ k, k < ds.length → dtD (frDd (dG ds k)) ≠ []) : jtX ds = bl (lns (ds.map frDd)) := by
  unfold jtX
  rw [jtL_yes]
  intro d hd
  rw [List.mem_map] at hd
  obtain ⟨e, he, rfl⟩ := hd
  obtain ⟨k, hk, rfl⟩ := List.getElem_of_mem he
  have := h k hk
  rwa [dG_get hk] at this
set_option maxRecDepth 100000 in
set_option maxHeartbeats 1600000 in
theorem sJournalText_c (A : Option Addr) (n c : Nat) (ds : List Dd) (w : World) (h : RdE w w.heap.size A n c ds) (hn : n ≤ 1048576) (hs : ∀ k, k < n → (dS ds k).size ≤ 1000000000000) :
    Calls Tryd.prog 15 #[.slice A n c] w (TextOf (jtX ds) w) := by
  have hl := h.len
  have HL := Lib.hid hl
  have hc := h.cap
  have hm := h.max
  unfold maxLen at hm
  go_enter Tryd.func15, Tryd.ntmps15
  go_wp2_with fail
  go_loopw [3, 4] (fun o i wr => ∃ k : Nat, k ≤ n ∧ i = .int .i64 (k : Int) ∧ o = .string (bl (lns ((ds.take k).map frDd))) ∧ (∀ j, j < k → dtD (frDd (dG ds j)) ≠ []) ∧ Below w.heap.size w wr) (fun _ i _ => n - (intOf i).toNat)
  case atStart => exact ⟨0, Nat.zero_le _, rfl, rfl, fun j hj => absurd hj (Nat.not_lt_zero _), Below.refl _ _⟩
  case round =>
    obtain ⟨k, hk, rfl, rfl, hno, hbw⟩ := hrel
    have hr := h.up hbw
    by_cases hlt : k < n
    · obtain ⟨b, off, rfl, hbE, e0, e1, e2, e3⟩ := hr.at_ hlt
      have hk0 : (0 : Int) ≤ (k : Int) := Int.natCast_nonneg _
      have hk1 : (k : Int) < (n : Int) := by omega
      have K1 := fun W => sDeedText_c (dK ds k) (dA ds k) (dB ds k) (dS ds k) W (hs k hlt)
      rw [dtX_at] at K1
      have hz := dtD_len (frDd (dG ds k))
      have hzl : (bl (lns ((ds.take k).map frDd))).size ≤ 22020096 := by
        have := lns_len ((ds.take k).map frDd)
        rw [bl_size]
        rw [List.length_map, List.length_take] at this
        omega
      by_cases hE : dtD (frDd (dG ds k)) = []
      · have HV := Lib.hid (jtX_no (by rw [hl]; exact hlt) hE)
        rw [hE] at K1
        rw [show bl [] = (⟨#[]⟩ : ByteArray) from rfl] at K1
        generalize bl (lns ((ds.take k).map frDd)) = O at *
        clear hno hE hz hl
        go_wp2_with fail
        refine (K1 _).mono ?_
        rintro e w2 ⟨rfl, hb2⟩
        have hB2 := bt hbw hb2
        clear hb2 e0 e1 e2 e3 hr
        go_wp2_with fail
        go_ret
        rw [HV.out]
        exact ⟨rfl, hB2⟩
      · have HN : Hid (∀ j, j < k + 1 → dtD (frDd (dG ds j)) ≠ []) := Lib.hid (fun j hj => by
          rcases Nat.lt_or_ge j k with h1 | h1
          · exact hno j h1
          · obtain rfl : j = k := by omega
            exact hE)
        have HT : Hid (bl (lns ((ds.take (k + 1)).map frDd)) = bl (lns ((ds.take k).map frDd)) ++ bl (dtD (frDd (dG ds k))) ++ ⟨#[10]⟩) := Lib.hid (by
          rw [take_fr (by rw [hl]; exact hlt), lns_snoc, bl_app, show (⟨#[10]⟩ : ByteArray) = bl [10] from rfl, bl_app, List.append_assoc])
        have qT : ((bl (dtD (frDd (dG ds k)))).toList == []) = false := by
          rw [show (bl (dtD (frDd (dG ds k)))).toList = dtD (frDd (dG ds k)) from by rw [ByteArray.toList_eq, bl_list]]
          exact beq_eq_false_iff_ne.2 hE
        have qU : ¬ (bl (dtD (frDd (dG ds k)))).toList = [] := by
          rw [show (bl (dtD (frDd (dG ds k)))).toList = dtD (frDd (dG ds k)) from by rw [ByteArray.toList_eq, bl_list]]
          exact hE
        have qS : (bl (dtD (frDd (dG ds k)))).toList.isEmpty = false := by
          rcases h9 : (bl (dtD (frDd (dG ds k)))).toList with _ | _
          · exact absurd h9 qU
          · rfl
        have hzt : (bl (dtD (frDd (dG ds k)))).size ≤ 20 := by rw [bl_size]; exact hz
        generalize bl (lns ((ds.take k).map frDd)) = O at *
        generalize bl (dtD (frDd (dG ds k))) = T at *
        have hna : ¬ (9223372036854775807 < O.size + T.size) := by omega
        have hnb : ¬ (9223372036854775807 < (O ++ T).size + (⟨#[10]⟩ : ByteArray).size) := by rw [ByteArray.size_append, show (⟨#[10]⟩ : ByteArray).size = 1 from rfl]; omega
        have hnc : ¬ (9223372036854775807 < O.size + T.size + 1) := by omega
        clear hno hE hz hl
        go_wp2_with fail
        refine (K1 _).mono ?_
        rintro e w2 ⟨rfl, hb2⟩
        have hB2 := bt hbw hb2
        have f0 := (hb2.cell (p := ⟨b, off + k * 4, none⟩) hbE).trans e0
        have f1 := (hb2.cell (p := ⟨b, off + k * 4 + 1, none⟩) hbE).trans e1
        have f2 := (hb2.cell (p := ⟨b, off + k * 4 + 2, none⟩) hbE).trans e2
        have f3 := (hb2.cell (p := ⟨b, off + k * 4 + 3, none⟩) hbE).trans e3
        clear hb2 e0 e1 e2 e3 hr
        go_wp2_with fail
        refine (K1 _).mono ?_
        rintro e w3 ⟨rfl, hb3⟩
        have hB3 := bt hB2 hb3
        clear hb3 f0 f1 f2 f3
        go_wp2_with fail
        go_roundw
        case rel => exact ⟨k + 1, by omega, by go_num, by rw [HT.out], HN.out, hB3⟩
        case measure => simp [intOf]; omega
    · obtain rfl : k = n := by omega
      have HV : Hid (jtX ds = bl (lns ((ds.take k).map frDd))) := Lib.hid (by
        rw [List.take_of_length_le (by rw [hl]; exact Nat.le_refl _)]
        exact jtX_yes (fun j hj => hno j (by omega)))
      clear hno
      go_wp2_with fail
      go_ret
      rw [HV.out]
      exact ⟨rfl, hbw⟩
end Go.Proofs.YtnpjelekpkgbpaaDoor
