/- Walks: l1Digits, l1Cut (reference). -/
import Derived.Test.YtnpjelekpkgbpaaDoorW109
import Derived.Test.YtnpjelekpkgbpaaDoorT1
import Derived.Test.YtnpjelekpkgbpaaDoorV9
import Derived.Test.YtnpjelekpkgbpaaDoorM22
namespace Go.Proofs.YtnpjelekpkgbpaaDoor
set_option linter.unusedVariables false
open Go.RowKit

/-- what ReadDeed returns -/
def RdOut (r : Dl × Bool) (w : World) (e : Ending) (w' : World) : Prop :=
  e = .returned (.tuple #[.agg #[.int .i64 r.1.1, .int .i64 r.1.2.1, .int .i64 r.1.2.2.1, .string (bl r.1.2.2.2)], .bool r.2]) ∧ Below w.heap.size w w'
theorem beqF {a b : List UInt8} (h : a ≠ b) : (a == b) = false := beq_eq_false_iff_ne.2 h
theorem bl_toList (l : List UInt8) : (bl l).toList = l := by rw [ByteArray.toList_eq, bl_list]
theorem digs_no1 {l : List UInt8} (h : ¬ (1 ≤ l.length ∧ l.length ≤ 6)) : digs l = -1 := by unfold digs; rw [if_neg (fun h' => h ⟨h'.1, h'.2.1⟩)]
theorem digs_no2 {l : List UInt8} (h : 1 < l.length ∧ l.head? = some 48) : digs l = -1 := by unfold digs; rw [if_neg (fun h' => h'.2.2 h)]
theorem digs_no3 {l : List UInt8} (h : Lib.decFrom 0 l = none) : digs l = -1 := by unfold digs; split <;> simp [h]
theorem digs_yes {l : List UInt8} {n : Nat} (h1 : 1 ≤ l.length ∧ l.length ≤ 6) (h2 : ¬ (1 < l.length ∧ l.head? = some 48)) (h : Lib.decFrom 0 l = some n) : digs l = n := by
  unfold digs; rw [if_pos ⟨h1.1, h1.2, h2⟩, h]
theorem decFrom_bad {l : List UInt8} {k : Nat} {b : UInt8} (hk : l[k]? = some b) (hd : Lib.digitVal b = none) : Lib.decFrom 0 l = none := by
  cases h : Lib.decFrom 0 l with
  | none => rfl
  | some n =>
    obtain ⟨d, h1⟩ := Lib.digit_of_decFrom l 0 n h k b hk
    rw [hd] at h1
    cases h1
theorem decFrom_le {l : List UInt8} {n : Nat} (h : Lib.decFrom 0 l = some n) (hl : l.length ≤ 6) : n ≤ 999999 := by
  have h1 := Lib.decFrom_lt l 0 n h
  have h2 : (10 : Nat) ^ l.length ≤ 10 ^ 6 := Nat.pow_le_pow_right (by omega) hl
  omega
theorem byte_at {s : ByteArray} {k : Nat} (hk : k < s.size) : s.data.toList[k]? = some (s.get! k) := by
  rw [byte_get hk, Array.getElem?_toList]
  exact Array.getElem?_eq_getElem hk
set_option maxRecDepth 100000 in
set_option maxHeartbeats 1600000 in
theorem l1Digits_c (s : ByteArray) (w : World) (hsz : s.size ≤ 1000000000000) :
    Calls Tryd.prog 42 #[.string s] w fun e w' => e = .returned (.int .i64 (digs s.data.toList)) ∧ w = w' := by
  have hll : s.data.toList.length = s.size := by rw [Array.length_toList]; rfl
  have hidx : ∀ k W, k < s.size → (Instr.index 9 (.string s) (.int .i64 (k : Int))).run Tryd.prog W = .ok (.int .u8 ((s.get! k).toNat : Int)) W := fun k W hk => by
    rw [run_index_string _ _ _ _ _ Tryd.underlying9]
    rw [dif_pos ⟨by omega, by omega⟩]
    rw [byte_get hk]
    rfl
  by_cases h16 : 1 ≤ s.size ∧ s.size ≤ 6
  · have K1 := l1In_c (s.size : Int) 1 6 w
    rw [show inB (s.size : Int) 1 6 = true from by rw [inB_iff]; omega] at K1
    have hi0 := hidx 0 w (by omega)
    have hb0 := byte_at (s := s) (k := 0) (by omega)
    rw [show (((0 : Nat) : Int)) = 0 from rfl] at hi0
    by_cases h0 : 1 < s.size ∧ s.get! 0 = 48
    · have HD : Hid (digs s.data.toList = -1) := Lib.hid (digs_no2 ⟨by rw [hll]; exact h0.1, by rw [List.head?_eq_getElem?, hb0, h0.2]⟩)
      rw [h0.2] at hi0
      have hi1 : (1 : Int) < (s.size : Int) := by omega
      have hi00 : (Instr.index 9 (.string s) (.int .i64 0)).run Tryd.prog w = .ok (.int .u8 48) w := hi0
      clear hb0 hi0 hidx
      go_enter Tryd.func42, Tryd.ntmps42
      go_wp2_with (go_at_call 32; with_reducible refine K1.mono ?_; rintro e w' ⟨rfl, rfl⟩)
      go_ret
      exact ⟨by rw [HD.out]; rfl, rfl⟩
    · have h0' : ¬ (1 < s.data.toList.length ∧ s.data.toList.head? = some 48) := by
        rw [hll, List.head?_eq_getElem?, hb0]
        rintro ⟨a, b⟩
        exact h0 ⟨a, Option.some.inj b⟩
      have hq : (1 : Int) < (s.size : Int) → (((s.get! 0).toNat : Int) == 48) = false := fun h1 => by
        rw [beq_eq_false_iff_ne]
        intro h2
        exact h0 ⟨by omega, UInt8.toNat_inj.1 (by have : (48 : UInt8).toNat = 48 := rfl; omega)⟩
      have H0 := Lib.hid h0'
      generalize ((s.get! 0).toNat : Int) = y0 at hi0 hq
      clear hb0 h0 h0'
      go_enter Tryd.func42, Tryd.ntmps42
      have hc1 : s.size = 1 ∨ 1 < s.size := by omega
      rcases hc1 with hc1 | hc1
      · have hi1 : ¬ (1 : Int) < (s.size : Int) := by omega
        clear hc1
        go_wp2_with (go_at_call 32; with_reducible refine K1.mono ?_; rintro e w' ⟨rfl, rfl⟩)
        go_loopw [3, 4] (fun t i wr => ∃ (k n : Nat), k ≤ s.size ∧ i = .int .i64 k ∧ t = .int .i64 (n : Int) ∧ Lib.decFrom 0 (s.data.toList.take k) = some n ∧ wr = w) (fun _ i _ => s.size - (intOf i).toNat)
        case atStart => exact ⟨0, 0, Nat.zero_le _, rfl, rfl, rfl, rfl⟩
        case round =>
          obtain ⟨k, n, hk, rfl, rfl, hn, rfl⟩ := hrel
          by_cases hlt : k < s.size
          · have hn6 := decFrom_le hn (by rw [List.length_take]; omega)
            have hb := byte_at hlt
            have hik := hidx k wr hlt
            have hy := (s.get! k).toNat_lt
            clear hidx hi0 hq
            by_cases hd : 48 ≤ (s.get! k).toNat ∧ (s.get! k).toNat ≤ 57
            · have HT := Lib.hid (Lib.decFrom_take s.data.toList k 0 n _ ((s.get! k).toNat - 48) hn hb (by unfold Lib.digitVal; rw [if_pos hd]))
              generalize (s.get! k).toNat = y at *
              have hy1 : ¬ (y : Int) < 48 := by omega
              have hy2 : ¬ (57 : Int) < (y : Int) := by omega
              have hw0 : wrap64 (10 * (n : Int)) = 10 * (n : Int) := by simp [wrap64]; omega
              have hw1 : IntKind.u8.wrap ((y : Int) - 48) = (y : Int) - 48 := IntWalk.u8_in _ (by omega)
              have hw2 : wrap64 (10 * (n : Int) + ((y : Int) - 48)) = 10 * (n : Int) + ((y : Int) - 48) := by simp [wrap64]; omega
              have hw3 : wrap64 ((y : Int) - 48) = (y : Int) - 48 := by simp [wrap64]; omega
              have hd2 : 48 ≤ y ∧ y ≤ 57 := hd
              clear hn hb hd
              go_wp2_with fail
              go_roundw
              case rel => exact ⟨k + 1, n * 10 + (y - 48), by omega, by go_num, by congr 1; omega, HT.out, trivial⟩
              case measure => simp [intOf]; omega
            · have HD := Lib.hid (digs_no3 (decFrom_bad hb (by unfold Lib.digitVal; rw [if_neg hd])))
              generalize (s.get! k).toNat = y at *
              have hdd : y < 48 ∨ (¬ y < 48 ∧ 57 < y) := by omega
              clear hn hb hd
              rcases hdd with hdd | ⟨hdd, hdd2⟩
              · have hy1 : (y : Int) < 48 := by omega
                go_wp2_with fail
                go_ret
                exact ⟨by rw [HD.out]; rfl, rfl⟩
              · have hy1 : ¬ (y : Int) < 48 := by omega
                have hy2 : (57 : Int) < (y : Int) := by omega
                go_wp2_with fail
                go_ret
                exact ⟨by rw [HD.out]; rfl, rfl⟩
          · obtain rfl : k = s.size := by omega
            have HD := Lib.hid (digs_yes (by rw [hll]; exact h16) H0.out (by rw [List.take_of_length_le (by omega)] at hn; exact hn))
            clear hn
            go_wp2_with fail
            go_ret
            exact ⟨by rw [HD.out]; rfl, rfl⟩
      · have hi1 : (1 : Int) < (s.size : Int) := by omega
        have hq1 := hq hi1
        clear hc1
        go_wp2_with (go_at_call 32; with_reducible refine K1.mono ?_; rintro e w' ⟨rfl, rfl⟩)
        go_loopw [3, 4] (fun t i wr => ∃ (k n : Nat), k ≤ s.size ∧ i = .int .i64 k ∧ t = .int .i64 (n : Int) ∧ Lib.decFrom 0 (s.data.toList.take k) = some n ∧ wr = w) (fun _ i _ => s.size - (intOf i).toNat)
        case atStart => exact ⟨0, 0, Nat.zero_le _, rfl, rfl, rfl, rfl⟩
        case round =>
          obtain ⟨k, n, hk, rfl, rfl, hn, rfl⟩ := hrel
          by_cases hlt : k < s.size
          · have hn6 := decFrom_le hn (by rw [List.length_take]; omega)
            have hb := byte_at hlt
            have hik := hidx k wr hlt
            have hy := (s.get! k).toNat_lt
            clear hidx hi0 hq
            by_cases hd : 48 ≤ (s.get! k).toNat ∧ (s.get! k).toNat ≤ 57
            · have HT := Lib.hid (Lib.decFrom_take s.data.toList k 0 n _ ((s.get! k).toNat - 48) hn hb (by unfold Lib.digitVal; rw [if_pos hd]))
              generalize (s.get! k).toNat = y at *
              have hy1 : ¬ (y : Int) < 48 := by omega
              have hy2 : ¬ (57 : Int) < (y : Int) := by omega
              have hw0 : wrap64 (10 * (n : Int)) = 10 * (n : Int) := by simp [wrap64]; omega
              have hw1 : IntKind.u8.wrap ((y : Int) - 48) = (y : Int) - 48 := IntWalk.u8_in _ (by omega)
              have hw2 : wrap64 (10 * (n : Int) + ((y : Int) - 48)) = 10 * (n : Int) + ((y : Int) - 48) := by simp [wrap64]; omega
              have hw3 : wrap64 ((y : Int) - 48) = (y : Int) - 48 := by simp [wrap64]; omega
              have hd2 : 48 ≤ y ∧ y ≤ 57 := hd
              clear hn hb hd
              go_wp2_with fail
              go_roundw
              case rel => exact ⟨k + 1, n * 10 + (y - 48), by omega, by go_num, by congr 1; omega, HT.out, trivial⟩
              case measure => simp [intOf]; omega
            · have HD := Lib.hid (digs_no3 (decFrom_bad hb (by unfold Lib.digitVal; rw [if_neg hd])))
              generalize (s.get! k).toNat = y at *
              have hdd : y < 48 ∨ (¬ y < 48 ∧ 57 < y) := by omega
              clear hn hb hd
              rcases hdd with hdd | ⟨hdd, hdd2⟩
              · have hy1 : (y : Int) < 48 := by omega
                go_wp2_with fail
                go_ret
                exact ⟨by rw [HD.out]; rfl, rfl⟩
              · have hy1 : ¬ (y : Int) < 48 := by omega
                have hy2 : (57 : Int) < (y : Int) := by omega
                go_wp2_with fail
                go_ret
                exact ⟨by rw [HD.out]; rfl, rfl⟩
          · obtain rfl : k = s.size := by omega
            have HD := Lib.hid (digs_yes (by rw [hll]; exact h16) H0.out (by rw [List.take_of_length_le (by omega)] at hn; exact hn))
            clear hn
            go_wp2_with fail
            go_ret
            exact ⟨by rw [HD.out]; rfl, rfl⟩
  · have K1 := l1In_c (s.size : Int) 1 6 w
    rw [show inB (s.size : Int) 1 6 = false from by unfold inB; rw [decide_eq_false]; omega] at K1
    have HD : Hid (digs s.data.toList = -1) := Lib.hid (digs_no1 (by rw [hll]; exact h16))
    clear hidx
    go_enter Tryd.func42, Tryd.ntmps42
    go_wp2_with (go_at_call 32; with_reducible refine K1.mono ?_; rintro e w' ⟨rfl, rfl⟩)
    go_ret
    exact ⟨by rw [HD.out]; rfl, rfl⟩

theorem idx_bl (l : List UInt8) (k : Nat) (W : World) (hk : k < l.length) : (Instr.index 9 (.string (bl l)) (.int .i64 (k : Int))).run Tryd.prog W = .ok (.int .u8 (((l.getD k 0).toNat : Nat) : Int)) W := by
  rw [run_index_string _ _ _ _ _ Tryd.underlying9]
  rw [dif_pos ⟨by omega, by rw [bl_size]; omega⟩]
  have e : l.getD k 0 = l[k] := by simp [List.getD, List.getElem?_eq_getElem hk]
  rw [e]
  rfl
theorem sub_bl (l : List UInt8) (a b : Nat) : (bl l).extract a b = bl ((l.drop a).take (b - a)) := ByteArray.extract_mk l a b
set_option maxRecDepth 100000 in
set_option maxHeartbeats 1600000 in
/-- l1Cut -/
theorem l1Cut_c (l : List UInt8) (c : UInt8) (w : World) (hsz : l.length ≤ 1000000000000) :
    Calls Tryd.prog 41 #[.string (bl l), .int .u8 (c.toNat : Int)] w fun e w' => ∃ A n cp, e = .returned (.slice A n cp) ∧ RdT w' w'.heap.size A n cp ((spl c l).map bl) ∧ Below w.heap.size w w' := by
  have hls : (bl l).size = l.length := bl_size l
  have hidx := fun k W (hk : k < l.length) => idx_bl l k W hk
  have hO0 := OwnS.made w w.heap.size #[] (Nat.le_refl _) rfl
  have hb0 : Below w.heap.size w (w.alloc (Obj.cells #[] 9)) := (Below.refl _ _).alloc (Nat.le_refl _) _
  have hcc := c.toNat_lt
  go_enter Tryd.func41, Tryd.ntmps41
  go_wp2_with fail
  generalize w.alloc (Obj.cells #[] 9) = w0 at hb0 hO0 ⊢
  go_loopw [5, 6, 7] (fun o f i wr => ∃ (k fr : Nat) (us : List (List UInt8)), k ≤ l.length ∧ fr ≤ k ∧ us.length ≤ k ∧ i = .int .i64 (k : Int) ∧ f = .int .i64 (fr : Int) ∧ OwnS wr w.heap.size o (us.map bl) ∧ spl c l = us ++ spl c (l.drop fr) ∧ c ∉ (l.drop fr).take (k - fr) ∧ Below w.heap.size w wr) (fun _ _ i _ => l.length - (intOf i).toNat)
  case atStart => exact ⟨0, 0, [], Nat.zero_le _, Nat.le_refl _, Nat.le_refl _, rfl, rfl, hO0, rfl, by simp, hb0⟩
  case round =>
    obtain ⟨k, fr, us, hk, hfk, hul, rfl, rfl, hown, hsp, hno, hbw⟩ := hrel
    have hs := hbw.size
    by_cases hlt : k < l.length
    · have hik := hidx k wr hlt
      have hgk : l[k]? = some (l.getD k 0) := by simp [List.getD, List.getElem?_eq_getElem hlt]
      have hdk : (l.drop fr)[k - fr]? = some (l.getD k 0) := by rw [List.getElem?_drop, show fr + (k - fr) = k by omega]; exact hgk
      have hts : (l.drop fr).take (k - fr + 1) = (l.drop fr).take (k - fr) ++ [l.getD k 0] := by rw [List.take_add_one, hdk]; rfl
      by_cases hc : l.getD k 0 = c
      · have hdr : l.drop fr = (l.drop fr).take (k - fr) ++ c :: l.drop (k + 1) := by
          conv => lhs; rw [← List.take_append_drop (k - fr) (l.drop fr)]
          rw [List.drop_drop, show fr + (k - fr) = k by omega]
          congr 1
          rw [List.drop_eq_getElem_cons hlt, ← hc]
          simp [List.getD, List.getElem?_eq_getElem hlt]
        have h9 : spl c (l.drop fr) = (l.drop fr).take (k - fr) :: spl c (l.drop (k + 1)) := by
          conv => lhs; rw [hdr]
          exact spl_yes _ hno
        have HS : Hid (spl c l = (us ++ [(l.drop fr).take (k - fr)]) ++ spl c (l.drop (k + 1))) := Lib.hid (by rw [hsp, h9, List.append_assoc]; rfl)
        have hex : (bl l).extract fr k = bl ((l.drop fr).take (k - fr)) := sub_bl l fr k
        rw [hc] at hik
        have hlen : (us.map bl).length ≤ 1000000000000 := by rw [List.length_map]; omega
        have h1 : (0 : Int) ≤ (fr : Int) := Int.natCast_nonneg _
        have h2 : (fr : Int) ≤ (k : Int) := by omega
        have h3 : (k : Int) ≤ (l.length : Int) := by omega
        clear hsp hno hdk hgk hts hc hdr h9 hidx
        go_wp2_with (at_builtin; refine app_text wr _ rfl _ _ rfl w.heap.size _ (us.map bl) rfl hown rfl hlen hs ?_; intro v' w3 hown3 hb3)
        go_roundw
        case rel => exact ⟨k + 1, k + 1, us ++ [(l.drop fr).take (k - fr)], by omega, by omega, by rw [List.length_append]; exact Nat.add_le_add hul (Nat.le_refl _), by go_num, by go_num, by rw [List.map_append]; simpa [hex] using hown3, HS.out, by simp, hbw.trans hb3⟩
        case measure => simp [intOf]; omega
      · have hq : (((l.getD k 0).toNat : Int) == (c.toNat : Int)) = false := by
          rw [beq_eq_false_iff_ne]
          intro h9
          exact hc (UInt8.toNat_inj.1 (by omega))
        have HN : Hid (c ∉ (l.drop fr).take (k + 1 - fr)) := Lib.hid (by
          rw [show k + 1 - fr = k - fr + 1 by omega, hts, List.mem_append, List.mem_singleton, not_or]
          exact ⟨hno, fun h9 => hc h9.symm⟩)
        have HS := Lib.hid hsp
        generalize ((l.getD k 0).toNat : Int) = y at *
        clear hsp hno hdk hgk hts hc hidx
        go_wp2_with fail
        go_roundw
        case rel => exact ⟨k + 1, fr, us, by omega, by omega, by omega, by go_num, rfl, hown, HS.out, HN.out, hbw⟩
        case measure => simp [intOf]; omega
    · obtain rfl : k = l.length := by omega
      have hno2 : c ∉ l.drop fr := by rw [List.take_of_length_le (by rw [List.length_drop]; omega)] at hno; exact hno
      have HS : Hid (spl c l = us ++ [l.drop fr]) := Lib.hid (by rw [hsp, spl_no hno2])
      have hex : (bl l).extract fr l.length = bl (l.drop fr) := by rw [sub_bl, List.take_of_length_le (by rw [List.length_drop]; omega)]
      have hlen : (us.map bl).length ≤ 1000000000000 := by rw [List.length_map]; omega
      have h1 : (0 : Int) ≤ (fr : Int) := Int.natCast_nonneg _
      have h2 : (fr : Int) ≤ (l.length : Int) := by omega
      clear hsp hno hno2
      go_wp2_with (at_builtin; refine app_text wr _ rfl _ _ rfl w.heap.size _ (us.map bl) rfl hown rfl hlen hs ?_; intro v' w3 hown3 hb3)
      obtain ⟨A3, c3, rfl, hR3⟩ := hown3.slice_
      go_ret
      rw [HS.out, List.map_append]
      exact ⟨A3, _, c3, rfl, by simpa [hex] using hR3, hbw.trans hb3⟩
end Go.Proofs.YtnpjelekpkgbpaaDoor
