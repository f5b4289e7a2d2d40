/- Bundle VH. -/
import Derived.Maps.OwnSet
import Derived.Maps.OwnOps
import Derived.Maps.Views
import Derived.Test.YtoinlkdmfclnbaaGreatDoorYV18
import Derived.Test.YtoinlkdmfclnbaaGreatDoorYVA
import Derived.Test.YtoinlkdmfclnbaaGreatDoorYVB
import Derived.Test.YtoinlkdmfclnbaaGreatDoorYVD
import Derived.Test.YtoinlkdmfclnbaaGreatDoorYVE
import Derived.Test.YtoinlkdmfclnbaaGreatDoorYVF
namespace Go.Proofs.YtoinlkdmfclnbaaGreatDoor
set_option linter.unusedVariables false
section
open Go.RowKit
def loopsTx (f : List Nat) : Tx := Lib.join ((repsN f f.length).map (fun r => digT (way f r))) [44]
def codeTx (f : List Nat) : Tx := if treeOkI (ints f) then 58 :: digT (codeN f) else [110, 111, 110, 101]
def ask (f : List Nat) : Nat → Tx
 | 0 => digT f
 | 1 => Lib.decDigits (idxN f)
 | 2 => Lib.decDigits (perN f)
 | 3 => loopsTx f
 | 4 => shapeT f
 | 5 => Lib.decDigits (imgN f).length
 | 6 => Lib.decDigits (gardenN f)
 | 7 => Lib.decDigits (clsN f).length
 | 8 => Lib.decDigits (pwN f.length f.length)
 | _ => codeTx f
theorem garden_le {f : List Nat} (hf : MapN f) : gardenN f ≤ 127 := by
 have h := hf.le7
 have h2 : 2 ^ f.length ≤ 2 ^ 7 := Nat.pow_le_pow_right (by omega) h
 unfold gardenN allN
 omega
theorem img_le (f : List Nat) (h : f.length ≤ 7) : (imgN f).length ≤ 7 := Nat.le_trans (parts_len _ _) h
theorem cls_le {f : List Nat} (hf : MapN f) : (clsN f).length ≤ 128 := by
 have h := hf.le7
 have h2 : 2 ^ f.length ≤ 2 ^ 7 := Nat.pow_le_pow_right (by omega) h
 have h3 : (clsN f).length ≤ 2 ^ f.length := parts_len _ _
 omega
theorem way_dig {f : List Nat} (hf : MapN f) {r : Nat} (hr : r < f.length) : (∀ k, k < (way f r).length → nx (way f r) k ≤ 9) ∧ (way f r).length ≤ 7 := by
 have h7 := hf.le7
 have hl : (way f r).length = wl f r := by rw [way, orb_len]
 have hw := wl_le hf hr
 refine ⟨fun k hk => ?_, by omega⟩
 rw [nx_get hk]
 simp only [way]
 rw [orb_get]
 have := it_lt hf hr k
 omega
theorem joinC_len {ts : List Tx} {M : Nat} (h : ∀ t ∈ ts, t.length ≤ M) (hl : ts.length ≤ 7) : (Lib.join ts [44]).length ≤ 7 * M + 7 := by
 have h1 := joinP_len h hl
 cases ts with
 | nil => simp [Lib.join_nil]
 | cons x r =>
  rw [Lib.join_length] at h1 ⊢
  exact h1
set_option maxHeartbeats 800000 in
theorem q0_c {f : List Nat} (hf : MapN f) (A P : Option Addr) (c m d : Nat) (w : World) (h : Rd w w.heap.size A f.length c (ints f)) (hg : Glo w) :
    Calls Tryz.prog 105 #[.agg #[.slice A f.length c, .slice P m d]] w (Txt w (ask f 0)) := by
 have h7 := hf.le7
 have hb1 := below_new w (.cells #[.slice A f.length c, .slice P m d] 26)
 have h1 := h.up hb1
 have T1 := Two.made w 26 (.slice A f.length c) (.slice P m d)
 obtain ⟨_, t0, t1, _, _⟩ := id T1
 have K := mapTextI_c hf A c _ h1
 unfold Txt at *
 go_enter Tryz.func105, Tryz.ntmps105
 go_wp2_with fail
 generalize w.alloc (.cells #[.slice A f.length c, .slice P m d] 26) = w1 at *
 refine K.mono ?_
 rintro e w2 ⟨rfl, hb2⟩
 go_wp2_with fail
 go_ret
 exact ⟨rfl, bt hb1 hb2⟩
set_option maxHeartbeats 800000 in
theorem q1_c {f : List Nat} (hf : MapN f) (A P : Option Addr) (c m d : Nat) (w : World) (h : Rd w w.heap.size A f.length c (ints f)) (hg : Glo w) :
    Calls Tryz.prog 106 #[.agg #[.slice A f.length c, .slice P m d]] w (Txt w (ask f 1)) := by
 have h7 := hf.le7
 have hb1 := below_new w (.cells #[.slice A f.length c, .slice P m d] 26)
 have h1 := h.up hb1
 have T1 := Two.made w 26 (.slice A f.length c) (.slice P m d)
 obtain ⟨_, t0, t1, _, _⟩ := id T1
 have K := indexOf_c hf A c _ h1
 have hn : idxN f ≤ 999999 := by have := idxN_le hf; omega
 have HA : Hid (ask f 1 = Lib.decDigits (idxN f)) := Lib.hid rfl
 unfold Txt at *
 go_enter Tryz.func106, Tryz.ntmps106
 go_wp2_with fail
 generalize w.alloc (.cells #[.slice A f.length c, .slice P m d] 26) = w1 at *
 refine K.mono ?_
 rintro e w2 ⟨rfl, hb2⟩
 have hB2 := bt hb1 hb2
 have hg2 := hg.up hB2
 have K3 := itoa_c (idxN f) w2 hn hg2.tab
 clear K t0 t1
 go_wp2_with fail
 refine K3.mono ?_
 rintro e w3 ⟨rfl, hb3⟩
 have hB3 := bt hB2 hb3
 go_wp2_with fail
 go_ret
 exact ⟨by rw [HA.out]; rfl, hB3⟩
set_option maxHeartbeats 800000 in
theorem q2_c {f : List Nat} (hf : MapN f) (A P : Option Addr) (c m d : Nat) (w : World) (h : Rd w w.heap.size A f.length c (ints f)) (hg : Glo w) :
    Calls Tryz.prog 107 #[.agg #[.slice A f.length c, .slice P m d]] w (Txt w (ask f 2)) := by
 have h7 := hf.le7
 have hb1 := below_new w (.cells #[.slice A f.length c, .slice P m d] 26)
 have h1 := h.up hb1
 have T1 := Two.made w 26 (.slice A f.length c) (.slice P m d)
 obtain ⟨_, t0, t1, _, _⟩ := id T1
 have K := periodOf_c hf A c _ h1
 have hn : perN f ≤ 999999 := by have := (perN_le hf).2; omega
 have HA : Hid (ask f 2 = Lib.decDigits (perN f)) := Lib.hid rfl
 unfold Txt at *
 go_enter Tryz.func107, Tryz.ntmps107
 go_wp2_with fail
 generalize w.alloc (.cells #[.slice A f.length c, .slice P m d] 26) = w1 at *
 refine K.mono ?_
 rintro e w2 ⟨rfl, hb2⟩
 have hB2 := bt hb1 hb2
 have hg2 := hg.up hB2
 have K3 := itoa_c (perN f) w2 hn hg2.tab
 clear K t0 t1
 go_wp2_with fail
 refine K3.mono ?_
 rintro e w3 ⟨rfl, hb3⟩
 have hB3 := bt hB2 hb3
 go_wp2_with fail
 go_ret
 exact ⟨by rw [HA.out]; rfl, hB3⟩
set_option maxHeartbeats 800000 in
theorem q3_c {f : List Nat} (hf : MapN f) (A P : Option Addr) (c m d : Nat) (w : World) (h : Rd w w.heap.size A f.length c (ints f)) (hg : Glo w) :
    Calls Tryz.prog 108 #[.agg #[.slice A f.length c, .slice P m d]] w (Txt w (ask f 3)) := by
 have h7 := hf.le7
 have hb1 := below_new w (.cells #[.slice A f.length c, .slice P m d] 26)
 have h1 := h.up hb1
 have T1 := Two.made w 26 (.slice A f.length c) (.slice P m d)
 obtain ⟨_, t0, t1, _, _⟩ := id T1
 have K := loopsOf_c A f.length c (ints f) _ h1
 unfold Rows at K
 rw [loopsI_ok hf] at K
 have hll : (loopsN f).length = (repsN f f.length).length := by unfold loopsN; rw [loops_rows, List.length_map]
 have hrl := reps_len f f.length
 have HAT : Hid (∀ m, m < (repsN f f.length).length → ∃ r, (repsN f f.length)[m]? = some r ∧ r < f.length ∧ gR (loopsN f) m = ints (way f r)) := Lib.hid (fun m hm => loops_at hf hm)
 have HD : Hid (∀ r, r < f.length → (∀ k, k < (way f r).length → nx (way f r) k ≤ 9) ∧ (way f r).length ≤ 7) := Lib.hid (fun r hr => way_dig hf hr)
 have HA : Hid (ask f 3 = Lib.join ((repsN f f.length).map (fun r => digT (way f r))) [44]) := Lib.hid rfl
 have HM : Hid (∀ t ∈ (repsN f f.length).map (fun r => digT (way f r)), t.length ≤ 7) := Lib.hid (fun t ht => by
  rw [List.mem_map] at ht
  obtain ⟨x, hx, rfl⟩ := ht
  unfold repsN at hx
  rw [List.mem_filter, List.mem_range] at hx
  rw [digT_len]
  exact (way_dig hf hx.1).2)
 unfold Txt at *
 go_enter Tryz.func108, Tryz.ntmps108
 go_wp2_with fail
 generalize w.alloc (.cells #[.slice A f.length c, .slice P m d] 26) = w1 at *
 refine K.mono ?_
 rintro e w2 ⟨v2, rfl, hO2, hb2⟩
 have hB2 := bt hb1 hb2
 obtain ⟨A2, c2, rfl, hR2⟩ := hO2.form
 rw [hll] at hR2 ⊢
 generalize loopsN f = rows at *
 generalize repsN f f.length = reps at *
 have hcap2 := hR2.cap
 obtain ⟨N, hN⟩ : ∃ N, reps.length = N := ⟨_, rfl⟩
 rw [hN] at hR2 hcap2 hrl HAT ⊢
 clear K t0 t1 hO2 hb2
 go_wp2_with fail
 go_loopw [3, 10] (fun v i9 wr => ∃ k : Nat, k ≤ N ∧ i9 = .int .i64 (k : Int) ∧ OwnS wr w2.heap.size v (txs ((reps.take k).map (fun r => digT (way f r)))) ∧ Below w2.heap.size w2 wr) (fun _ i9 _ => N - (intOf i9).toNat)
 case atStart => exact ⟨0, Nat.zero_le _, rfl, OwnS.nil_ _ _, Below.refl _ _⟩
 case round =>
  obtain ⟨k, hk, rfl, hO, hbw⟩ := hrel
  have hz := hbw.size
  by_cases hlt : k < N
  · obtain ⟨r, hr, hrf, hrow⟩ := HAT.out k hlt
    obtain ⟨hd1, hd2⟩ := HD.out r hrf
    obtain ⟨b, off, A', n', c', hA2, hb, hcell, hRk⟩ := (hR2.up hbw).at_ hlt
    subst hA2
    rw [hrow] at hRk
    obtain rfl : (way f r).length = n' := by rw [← hRk.len, ints_len]
    have K4 := digitsOf_c (way f r) hd1 (by omega) A' c' wr hRk
    have HN : Hid (txs ((reps.take (k + 1)).map (fun r => digT (way f r))) = txs ((reps.take k).map (fun r => digT (way f r))) ++ [bl (digT (way f r))]) := Lib.hid (by
     rw [List.take_add_one, hr, List.map_append, show (some r).toList.map (fun r => digT (way f r)) = [digT (way f r)] from rfl, txs_app]; rfl)
    have hlen : (txs ((reps.take k).map (fun r => digT (way f r)))).length ≤ 7 := by rw [txs_len, List.length_map, List.length_take]; omega
    generalize txs ((reps.take k).map (fun r => digT (way f r))) = ts at *
    generalize bl (digT (way f r)) = T at *
    generalize (way f r).length = n9 at *
    have hk0 : (0 : Int) ≤ (k : Int) := Int.natCast_nonneg _
    have hk1 : (k : Int) < (N : Int) := by omega
    have HO := Lib.hid hO
    clear hO hr hrow hd1 HAT HD HM HA
    go_wp2_with fail
    refine K4.mono ?_
    rintro e w4 ⟨rfl, hb4⟩
    have hO4 := HO.out.up hb4
    have hz4 := hb4.size
    have HB4 := Lib.hid (bt hbw hb4)
    clear K4 hb4 hcell hRk HO hbw
    go_wp2_with (at_builtin; refine app_text w4 T rfl _ _ rfl w2.heap.size _ ts rfl hO4 rfl (by omega) (by omega) ?_; intro v' w5 hown5 hb5)
    go_roundw
    case rel => exact ⟨k + 1, by omega, by go_num, by rw [HN.out]; exact hown5, HB4.out.trans hb5⟩
    case measure => simp [intOf]; omega
  · obtain rfl : k = N := by omega
    rw [List.take_of_length_le (by omega)] at hO
    have hBw := bt hB2 hbw
    have hlen : (reps.map (fun r => digT (way f r))).length ≤ 7 := by rw [List.length_map]; omega
    obtain ⟨A3, c3, rfl, hR3⟩ := hO.slice_
    have K5 := join_c A3 _ c3 _ ⟨#[44]⟩ wr hR3 (by rw [txs_len]; omega) (by
     show (Lib.join _ [44]).length ≤ _
     have := joinC_len HM.out hlen
     omega)
    rw [show (⟨#[44]⟩ : ByteArray).data.toList = [44] from rfl] at K5
    rw [txs_len, List.length_map, hN] at K5 hR3 ⊢
    have hk1 : ¬ (k : Int) < (k : Int) := by omega
    clear HAT HD HM hO
    go_wp2_with fail
    refine K5.mono ?_
    rintro e w6 ⟨rfl, hb6⟩
    have hB6 := bt hBw hb6
    go_wp2_with fail
    go_ret
    exact ⟨by rw [HA.out]; rfl, hB6⟩
set_option maxHeartbeats 800000 in
theorem q4_c {f : List Nat} (hf : MapN f) (A P : Option Addr) (c m d : Nat) (w : World) (h : Rd w w.heap.size A f.length c (ints f)) (hg : Glo w) :
    Calls Tryz.prog 109 #[.agg #[.slice A f.length c, .slice P m d]] w (Txt w (ask f 4)) := by
 have h7 := hf.le7
 have hb1 := below_new w (.cells #[.slice A f.length c, .slice P m d] 26)
 have h1 := h.up hb1
 have T1 := Two.made w 26 (.slice A f.length c) (.slice P m d)
 obtain ⟨_, t0, t1, _, _⟩ := id T1
 have K := shapeText_c hf A c _ h1
 unfold Txt at *
 go_enter Tryz.func109, Tryz.ntmps109
 go_wp2_with fail
 generalize w.alloc (.cells #[.slice A f.length c, .slice P m d] 26) = w1 at *
 refine K.mono ?_
 rintro e w2 ⟨rfl, hb2⟩
 go_wp2_with fail
 go_ret
 exact ⟨rfl, bt hb1 hb2⟩
set_option maxHeartbeats 800000 in
theorem q5_c {f : List Nat} (hf : MapN f) (A P : Option Addr) (c m d : Nat) (w : World) (h : Rd w w.heap.size A f.length c (ints f)) (hg : Glo w) :
    Calls Tryz.prog 110 #[.agg #[.slice A f.length c, .slice P m d]] w (Txt w (ask f 5)) := by
 have h7 := hf.le7
 have hb1 := below_new w (.cells #[.slice A f.length c, .slice P m d] 26)
 have h1 := h.up hb1
 have T1 := Two.made w 26 (.slice A f.length c) (.slice P m d)
 obtain ⟨_, t0, t1, _, _⟩ := id T1
 have K := imageOf_c A f.length c (ints f) _ h1
 have hn : (imgN f).length ≤ 999999 := by have := img_le f h7; omega
 have HA : Hid (ask f 5 = Lib.decDigits ((imgN f).length)) := Lib.hid rfl
 unfold Row1 at K
 rw [imageI_ok hf] at K
 unfold Txt at *
 go_enter Tryz.func110, Tryz.ntmps110
 go_wp2_with fail
 generalize w.alloc (.cells #[.slice A f.length c, .slice P m d] 26) = w1 at *
 refine K.mono ?_
 rintro e w2 ⟨A2, n2, c2, rfl, hO2, hb2⟩
 obtain rfl : (imgN f).length = n2 := by rw [← hO2.len, ints_len]
 have hB2 := bt hb1 hb2
 have hg2 := hg.up hB2
 have K3 := itoa_c ((imgN f).length) w2 hn hg2.tab
 clear K t0 t1
 go_wp2_with fail
 refine K3.mono ?_
 rintro e w3 ⟨rfl, hb3⟩
 have hB3 := bt hB2 hb3
 go_wp2_with fail
 go_ret
 exact ⟨by rw [HA.out]; rfl, hB3⟩
set_option maxHeartbeats 800000 in
theorem q6_c {f : List Nat} (hf : MapN f) (A P : Option Addr) (c m d : Nat) (w : World) (h : Rd w w.heap.size A f.length c (ints f)) (hg : Glo w) :
    Calls Tryz.prog 111 #[.agg #[.slice A f.length c, .slice P m d]] w (Txt w (ask f 6)) := by
 have h7 := hf.le7
 have hb1 := below_new w (.cells #[.slice A f.length c, .slice P m d] 26)
 have h1 := h.up hb1
 have T1 := Two.made w 26 (.slice A f.length c) (.slice P m d)
 obtain ⟨_, t0, t1, _, _⟩ := id T1
 have K := gardenOf_c A f.length c (ints f) _ h1
 rw [gardenI_ok hf] at K
 have hn : gardenN f ≤ 999999 := by have := garden_le hf; omega
 have HA : Hid (ask f 6 = Lib.decDigits (gardenN f)) := Lib.hid rfl
 have K3 := itoa_c (gardenN f) _ hn (hg.up hb1).tab
 generalize gardenN f = y at *
 unfold Txt at *
 go_enter Tryz.func111, Tryz.ntmps111
 go_wp2_with fail
 generalize w.alloc (.cells #[.slice A f.length c, .slice P m d] 26) = w1 at *
 refine K.mono ?_
 rintro e w2 ⟨rfl, rfl⟩
 go_wp2_with fail
 refine K3.mono ?_
 rintro e w3 ⟨rfl, hb3⟩
 go_wp2_with fail
 go_ret
 exact ⟨by rw [HA.out]; rfl, bt hb1 hb3⟩
set_option maxHeartbeats 800000 in
theorem q7_c {f : List Nat} (hf : MapN f) (A P : Option Addr) (c m d : Nat) (w : World) (h : Rd w w.heap.size A f.length c (ints f)) (hg : Glo w) :
    Calls Tryz.prog 112 #[.agg #[.slice A f.length c, .slice P m d]] w (Txt w (ask f 7)) := by
 have h7 := hf.le7
 have hb1 := below_new w (.cells #[.slice A f.length c, .slice P m d] 26)
 have h1 := h.up hb1
 have T1 := Two.made w 26 (.slice A f.length c) (.slice P m d)
 obtain ⟨_, t0, t1, _, _⟩ := id T1
 have K := closedSets_c A f.length c (ints f) _ h1
 have hn : (clsN f).length ≤ 999999 := by have := cls_le hf; omega
 have HA : Hid (ask f 7 = Lib.decDigits ((clsN f).length)) := Lib.hid rfl
 rw [closedSetsI_ok hf] at K
 unfold Txt at *
 go_enter Tryz.func112, Tryz.ntmps112
 go_wp2_with fail
 generalize w.alloc (.cells #[.slice A f.length c, .slice P m d] 26) = w1 at *
 refine K.mono ?_
 rintro e w2 ⟨v2, rfl, hO2, hb2⟩
 obtain ⟨A2, c2, rfl, hO3⟩ := hO2.form
 rw [ints_len]
 have hB2 := bt hb1 hb2
 have hg2 := hg.up hB2
 have K3 := itoa_c ((clsN f).length) w2 hn hg2.tab
 clear K t0 t1
 go_wp2_with fail
 refine K3.mono ?_
 rintro e w3 ⟨rfl, hb3⟩
 have hB3 := bt hB2 hb3
 go_wp2_with fail
 go_ret
 exact ⟨by rw [HA.out]; rfl, hB3⟩
set_option maxHeartbeats 800000 in
theorem q8_c {f : List Nat} (hf : MapN f) (A P : Option Addr) (c m d : Nat) (w : World) (h : Rd w w.heap.size A f.length c (ints f)) (hg : Glo w) :
    Calls Tryz.prog 113 #[.agg #[.slice A f.length c, .slice P m d]] w (Txt w (ask f 8)) := by
 have h7 := hf.le7
 have hb1 := below_new w (.cells #[.slice A f.length c, .slice P m d] 26)
 have h1 := h.up hb1
 have T1 := Two.made w 26 (.slice A f.length c) (.slice P m d)
 obtain ⟨_, t0, t1, _, _⟩ := id T1
 have K := mapsOf_c f.length (w.alloc (.cells #[.slice A f.length c, .slice P m d] 26)) hf.pos h7
 have hn : pwN f.length f.length ≤ 999999 := by have := pwN_le h7 h7; omega
 have HA : Hid (ask f 8 = Lib.decDigits (pwN f.length f.length)) := Lib.hid rfl
 unfold Txt at *
 go_enter Tryz.func113, Tryz.ntmps113
 go_wp2_with fail
 generalize w.alloc (.cells #[.slice A f.length c, .slice P m d] 26) = w1 at *
 refine K.mono ?_
 rintro e w2 ⟨rfl, hb2⟩
 have hB2 := bt hb1 hb2
 have hg2 := hg.up hB2
 have K3 := itoa_c (pwN f.length f.length) w2 hn hg2.tab
 clear K t0 t1
 go_wp2_with fail
 refine K3.mono ?_
 rintro e w3 ⟨rfl, hb3⟩
 have hB3 := bt hB2 hb3
 go_wp2_with fail
 go_ret
 exact ⟨by rw [HA.out]; rfl, hB3⟩
set_option maxHeartbeats 800000 in
theorem q9_c {f : List Nat} (hf : MapN f) (A P : Option Addr) (c m d : Nat) (w : World) (h : Rd w w.heap.size A f.length c (ints f)) (hg : Glo w) :
    Calls Tryz.prog 114 #[.agg #[.slice A f.length c, .slice P m d]] w (Txt w (ask f 9)) := by
 have h7 := hf.le7
 have hb1 := below_new w (.cells #[.slice A f.length c, .slice P m d] 26)
 have h1 := h.up hb1
 have T1 := Two.made w 26 (.slice A f.length c) (.slice P m d)
 obtain ⟨_, t0, t1, _, _⟩ := id T1
 have K := codeOf_c A f.length c (ints f) _ h1
 unfold RowBool at K
 have HA : Hid (ask f 9 = codeTx f) := Lib.hid rfl
 unfold Txt at *
 rcases hs : treeOkI (ints f) with _ | _
 · rw [hs] at K
   have HC : Hid (codeTx f = [110, 111, 110, 101]) := Lib.hid (by unfold codeTx; rw [hs]; rfl)
   clear hs
   go_enter Tryz.func114, Tryz.ntmps114
   go_wp2_with fail
   generalize w.alloc (.cells #[.slice A f.length c, .slice P m d] 26) = w1 at *
   refine K.mono ?_
   rintro e w2 ⟨A2, n2, c2, rfl, hO2, hb2⟩
   go_wp2_with fail
   go_ret
   exact ⟨by rw [HA.out, HC.out]; rfl, bt hb1 hb2⟩
 · rw [hs] at K
   obtain ⟨f', hff, hf', h1', h2'⟩ := tree_ex hs
   obtain ⟨c1, hc, hfe, he, hr⟩ := (treeN_of hf' h1' h2').ex
   have hce : codeI (ints f) = ints (codeN f) := codeI_ok hs
   have hcc : codeN f = c1 := by
    have : toN (ints f) = toN (ints f') := by rw [hff]
    rw [toN_ints, toN_ints] at this
    rw [this]; exact he
   have h6 := hc.le6
   have hdg : ∀ k, k < c1.length → nx c1 k ≤ 9 := fun k hk => by
    rw [nx_get hk]
    have := hc.has _ (List.getElem_mem hk)
    omega
   have HC : Hid (codeTx f = 58 :: digT c1) := Lib.hid (by unfold codeTx; rw [hs, hcc]; rfl)
   rw [hce, hcc] at K
   have HD := Lib.hid hdg
   clear hs hdg hce hcc hr he hff hf' h1' h2' hfe
   go_enter Tryz.func114, Tryz.ntmps114
   go_wp2_with fail
   generalize w.alloc (.cells #[.slice A f.length c, .slice P m d] 26) = w1 at *
   refine K.mono ?_
   rintro e w2 ⟨A2, n2, c2, rfl, hO2, hb2⟩
   have hB2 := bt hb1 hb2
   obtain rfl : c1.length = n2 := by rw [← hO2.len, ints_len]
   have K3 := digitsOf_c c1 HD.out (by omega) A2 c2 _ hO2.rd
   have hsz : (bl (digT c1)).size ≤ 6 := by rw [bl_size, digT_len]; exact h6
   have HX : Hid (bl (58 :: digT c1) = ⟨#[58]⟩ ++ bl (digT c1)) := Lib.hid (by rw [show (⟨#[58]⟩ : ByteArray) = bl [58] from rfl, bl_app]; rfl)
   generalize bl (digT c1) = T at *
   have hna : ¬ (9223372036854775807 < (⟨#[58]⟩ : ByteArray).size + T.size) := by rw [show (⟨#[58]⟩ : ByteArray).size = 1 from rfl]; omega
   have hnb : ¬ (9223372036854775807 < 1 + T.size) := by omega
   generalize c1.length = n9 at *
   clear K t0 t1
   go_wp2_with fail
   refine K3.mono ?_
   rintro e w3 ⟨rfl, hb3⟩
   have hB3 := bt hB2 hb3
   go_wp2_with fail
   go_ret
   exact ⟨by rw [HA.out, HC.out]; show _ = Ending.returned (.string (bl (58 :: digT c1))); rw [HX.out]; rfl, hB3⟩
end
section
open Go.RowKit
def wayL (l : List UInt8) : Option Nat := match l with
 | [119, 97, 121, 32, d] => if 48 ≤ d.toNat ∧ d.toNat ≤ 57 then some (d.toNat - 48) else none
 | _ => none
def noneT : Tx := [110, 111, 110, 101]
def wayT (f : List Nat) (t : Nat) : Tx := if t < f.length then digT (way f t) else noneT
theorem way_pre {l : List UInt8} (h : Lib.hasPrefix l [119, 97, 121, 32] = true) : l = [119, 97, 121, 32] ++ l.drop 4 := by
 unfold Lib.hasPrefix at h
 obtain ⟨t, ht⟩ := List.isPrefixOf_iff_prefix.1 h
 rw [← ht]; rfl
theorem wayL_no {l : List UInt8} (h : Lib.hasPrefix l [119, 97, 121, 32] = false) : wayL l = none := by
 unfold wayL
 split
 · rename_i d
   simp [Lib.hasPrefix] at h
 · rfl
theorem wayL_len {v : List UInt8} (h : v.length ≠ 1) : wayL ([119, 97, 121, 32] ++ v) = none := by
 unfold wayL
 split
 · rename_i d e
   have := congrArg List.length e
   simp at this
   omega
 · rfl
theorem wayL_one (d : UInt8) : wayL [119, 97, 121, 32, d] = if 48 ≤ d.toNat ∧ d.toNat ≤ 57 then some (d.toNat - 48) else none := rfl
def WayOut (o : Option Nat) (e : Ending) : Prop := match o with
 | some t => e = .returned (.tuple #[.int .i64 (t : Int), .bool true])
 | none => e = .returned (.tuple #[.int .i64 0, .bool false])
set_option maxHeartbeats 1600000 in
theorem wayAsked_c (s : ByteArray) (w : World) (hs : s.size ≤ 1000000000) :
    Calls Tryz.prog 45 #[.string s] w fun e w' => WayOut (wayL s.data.toList) e ∧ w = w' := by
 have K := Any.strings_CutPrefix cutPreA s ⟨#[119, 97, 121, 32]⟩ w
 rw [show (⟨#[119, 97, 121, 32]⟩ : ByteArray).data.toList = [119, 97, 121, 32] from rfl] at K
 rcases hp : Lib.hasPrefix s.data.toList [119, 97, 121, 32] with _ | _
 · rw [hp] at K
   have HW := Lib.hid (wayL_no hp)
   generalize Lib.trimPrefix s.data.toList [119, 97, 121, 32] = v at *
   go_enter Tryz.func45, Tryz.ntmps45
   go_wp2_with fail
   refine K.mono ?_
   rintro e w2 ⟨rfl, rfl⟩
   go_wp2_with fail
   go_ret2
   rw [HW.out]
   exact ⟨rfl, rfl⟩
 · rw [hp] at K
   have hsv := way_pre hp
   have htr : Lib.trimPrefix s.data.toList [119, 97, 121, 32] = s.data.toList.drop 4 := by unfold Lib.trimPrefix; rw [hp]; rfl
   rw [htr] at K
   have hvl : (s.data.toList.drop 4).length ≤ 1000000000 := by
    rw [List.length_drop, Array.length_toList]
    have : s.data.size = s.size := rfl
    omega
   generalize s.data.toList.drop 4 = v at *
   by_cases hl : v.length = 1
   · obtain ⟨d, rfl⟩ := List.length_eq_one_iff.1 hl
     have hX : ∀ h : 0 < (bl [d]).size, (((bl [d])[0]'h).toNat : Int) = (d.toNat : Int) := fun h => rfl
     have hsz : (bl [d]).size = 1 := rfl
     have HW : Hid (wayL s.data.toList = if 48 ≤ d.toNat ∧ d.toNat ≤ 57 then some (d.toNat - 48) else none) := Lib.hid (by rw [hsv]; exact wayL_one d)
     have hd := UInt8.toNat_lt d
     change Calls _ _ _ _ (fun e w' => e = Ending.returned (.tuple #[.string (bl [d]), .bool true]) ∧ w' = w) at K
     obtain ⟨y, hy⟩ : ∃ y, d.toNat = y := ⟨_, rfl⟩
     rw [hy] at hX HW hd
     generalize bl [d] = X at *
     clear hy
     clear hsv hp htr
     by_cases h1 : y < 48
     · have h1i : (y : Int) < 48 := by omega
       have HN : Hid (¬ (48 ≤ y ∧ y ≤ 57)) := Lib.hid (by omega)
       go_enter Tryz.func45, Tryz.ntmps45
       go_wp2_with fail
       refine K.mono ?_
       rintro e w2 ⟨rfl, rfl⟩
       go_wp2_with fail
       go_ret2
       rw [HW.out, if_neg HN.out]
       exact ⟨rfl, rfl⟩
     · by_cases h2 : 57 < y
       · have h1i : ¬ (y : Int) < 48 := by omega
         have h2i : (57 : Int) < (y : Int) := by omega
         have HN : Hid (¬ (48 ≤ y ∧ y ≤ 57)) := Lib.hid (by omega)
         go_enter Tryz.func45, Tryz.ntmps45
         go_wp2_with fail
         refine K.mono ?_
         rintro e w2 ⟨rfl, rfl⟩
         go_wp2_with fail
         go_ret2
         rw [HW.out, if_neg HN.out]
         exact ⟨rfl, rfl⟩
       · have h1i : ¬ (y : Int) < 48 := by omega
         have h2i : ¬ (57 : Int) < (y : Int) := by omega
         have HN : Hid (48 ≤ y ∧ y ≤ 57) := Lib.hid (by omega)
         have hwy : IntKind.i64.wrap (y : Int) = (y : Int) := IntWalk.i64_in _ (by omega)
         have hwz : IntKind.i64.wrap ((y : Int) - 48) = ((y - 48 : Nat) : Int) := by rw [IntWalk.i64_in _ (by omega)]; omega
         go_enter Tryz.func45, Tryz.ntmps45
         go_wp2_with fail
         refine K.mono ?_
         rintro e w2 ⟨rfl, rfl⟩
         go_wp2_with fail
         go_ret2
         rw [HW.out, if_pos HN.out]
         refine ⟨?_, rfl⟩
         show _ = Ending.returned (.tuple #[.int .i64 ((y - 48 : Nat) : Int), .bool true])
         rw [← hwz]
         rfl
   · have HW : Hid (wayL s.data.toList = none) := Lib.hid (by rw [hsv]; exact wayL_len hl)
     have hli : ¬ ((bl v).size : Int) = 1 := by rw [bl_size]; omega
     have hlb : (((bl v).size : Int) == 1) = false := by rw [beq_eq_false_iff_ne]; exact hli
     have hlb2 : (((bl v).size : Int) != 1) = true := by rw [bne, hlb]; rfl
     change Calls _ _ _ _ (fun e w' => e = Ending.returned (.tuple #[.string (bl v), .bool true]) ∧ w' = w) at K
     generalize bl v = X at *
     clear hsv hp htr hvl hl
     go_enter Tryz.func45, Tryz.ntmps45
     go_wp2_with fail
     refine K.mono ?_
     rintro e w2 ⟨rfl, rfl⟩
     go_wp2_with fail
     go_ret2
     rw [HW.out]
     exact ⟨rfl, rfl⟩
end
section
open Go.RowKit
set_option maxHeartbeats 800000 in
theorem wayText_c {f : List Nat} (hf : MapN f) (t : Nat) (A P : Option Addr) (c m d : Nat) (w : World) (h : Rd w w.heap.size A f.length c (ints f)) :
    Calls Tryz.prog 46 #[.agg #[.slice A f.length c, .slice P m d], .int .i64 (t : Int)] w (Txt w (wayT f t)) := by
 have h7 := hf.le7
 have hb1 := below_new w (.cells #[.slice A f.length c, .slice P m d] 26)
 have h1 := h.up hb1
 have T1 := Two.made w 26 (.slice A f.length c) (.slice P m d)
 obtain ⟨_, t0, t1, _, _⟩ := id T1
 have K1 := thingOk_c A f.length c (ints f) (t : Int) _ h1
 have K2 := wayFrom_c A f.length c (ints f) (t : Int) _ h1
 unfold Txt Way at *
 by_cases ht : t < f.length
 · have ha : atOk (ints f) (t : Int) = true := atOk_ints hf ht
   rw [ha] at K1
   rw [wayI_ok hf ht] at K2
   have HW : Hid (wayT f t = digT (way f t)) := Lib.hid (by unfold wayT; rw [if_pos ht])
   obtain ⟨hd1, hd2⟩ := way_dig hf ht
   go_enter Tryz.func46, Tryz.ntmps46
   go_wp2_with (go_at_call 116; with_reducible refine K1.mono ?_; rintro e w' ⟨rfl, rfl⟩)
   generalize w.alloc (.cells #[.slice A f.length c, .slice P m d] 26) = w1 at *
   refine K2.mono ?_
   rintro e w2 ⟨v2, rfl, hO2, hb2⟩
   have hB2 := bt hb1 hb2
   obtain ⟨A2, c2, rfl, hO3⟩ := hO2.form
   rw [ints_len] at hO3 ⊢
   have K3 := digitsOf_c (way f t) hd1 (by omega) A2 c2 w2 hO3.rd
   clear K1 K2 t0 t1
   go_wp2_with fail
   refine K3.mono ?_
   rintro e w3 ⟨rfl, hb3⟩
   have hB3 := bt hB2 hb3
   go_wp2_with fail
   go_ret
   exact ⟨by rw [HW.out]; rfl, hB3⟩
 · have ha : atOk (ints f) (t : Int) = false := by
    rcases e : atOk (ints f) (t : Int) with _ | _
    · rfl
    · obtain ⟨f', k, e1, e2, _, hk⟩ := atOk_ex e
      exfalso
      have h1 : f.length = f'.length := by rw [← ints_len f, e1, ints_len]
      omega
   rw [ha] at K1
   have HW : Hid (wayT f t = noneT) := Lib.hid (by unfold wayT; rw [if_neg ht])
   go_enter Tryz.func46, Tryz.ntmps46
   go_wp2_with (go_at_call 116; with_reducible refine K1.mono ?_; rintro e w' ⟨rfl, rfl⟩)
   go_ret
   exact ⟨by rw [HW.out]; rfl, hb1⟩
def qW : Nat → List UInt8
 | 0 => [109, 97, 112]
 | 1 => [105, 110, 100, 101, 120]
 | 2 => [112, 101, 114, 105, 111, 100]
 | 3 => [108, 111, 111, 112, 115]
 | 4 => [115, 104, 97, 112, 101]
 | 5 => [105, 109, 97, 103, 101]
 | 6 => [103, 97, 114, 100, 101, 110]
 | 7 => [99, 108, 111, 115, 101, 100]
 | 8 => [109, 97, 112, 115]
 | _ => [99, 111, 100, 101]
def qF : Nat → Nat
 | 0 => 105
 | 1 => 106
 | 2 => 107
 | 3 => 108
 | 4 => 109
 | 5 => 110
 | 6 => 111
 | 7 => 112
 | 8 => 113
 | _ => 114
def RF (v : Value) : Option (DataW Unit × List MemPlace) := match v with
 | .func (.func n) a b => if a.size = 0 ∧ b.size = 0 then some (.lit (.int .i64 (n : Int)), []) else some (.lit (.bool false), [])
 | _ => some (.lit (.bool false), [])
theorem RF_inv {v : Value} {n : Nat} {ps : List MemPlace} (h : RF v = some (.lit (.int .i64 (n : Int)), ps)) : v = .func (.func n) #[] #[] := by
 unfold RF at h
 split at h
 · rename_i m a b
   split at h
   · rename_i hz
     simp only [Option.some.injEq, Prod.mk.injEq, DataW.lit.injEq, Lit.int.injEq, true_and] at h
     obtain ⟨h1, _⟩ := h
     rw [Int.ofNat.inj h1, Array.eq_empty_of_size_eq_zero hz.1, Array.eq_empty_of_size_eq_zero hz.2]
   · simp at h
 · simp at h
theorem RF_at (n : Nat) : RF (.func (.func n) #[] #[]) = some (.lit (.int .i64 (n : Int)), []) := rfl
def qD : Nat → DataW Unit
 | 0 => .map []
 | k + 1 => (qD k).put (.string (qW k)) (.lit (.int .i64 (qF k : Int)))
theorem wpList_insert_own {H : Type} {P : Program} (w : World) {ops : Array Oper} {rest : List Oper} {o : Oper} {a : Act} {Q : Exit → Act → World → Prop}
    (hg : o.guard = none) (m x v : Operand) (t : TypeId) (hop : o.op = Op.insert t m x v)
    (k e : TypeId) (K : Maps.Keyed P k) (ht : P.underlying t = some (.map k e)) (R : Value → Option (DataW H × List MemPlace)) (b n : Nat) (D : DataW H)
    (hm : a.eval m = .map (some b)) (hown : w.ownsMap P k R b n D) (hn : n < maxLen) (key val : Value) (kl : Lit) (hx : a.eval x = key) (hv : a.eval v = val) (hkey : keyOf P k key = some kl)
    (d : DataW H) (ps : List MemPlace) (hval : R val = some (d, ps))
    (hK : ∀ w', w'.ownsMap P k R b (n + 1) (D.put kl d) → w.grownBy w' (some b) → wpList P ops Q rest (a.put o.dst undef) w') :
    wpList P ops Q (o :: rest) a w := by
 refine wpList_plain hg fun K' hK' => ?_
 obtain ⟨w', hrun, r1, r2⟩ := hown.update K ht hn hkey hval
 unfold Oper.wp
 simp [execOp, hop, hm, hx, hv, hrun, Result.andThen]
 exact hK' _ _ (hK w' r1 r2)
theorem wpList_makeMap_own {P : Program} (w : World) {ops : Array Oper} {rest : List Oper} {o : Oper} {a : Act} {Q : Exit → Act → World → Prop}
    (hg : o.guard = none) (t : TypeId) (hop : o.op = Op.makeMap t none)
    (hK : wpList P ops Q rest (a.put o.dst (.map (some w.heap.size))) (w.alloc (.map #[] 0))) :
    wpList P ops Q (o :: rest) a w := by
 refine wpList_plain hg fun K' hK' => ?_
 have hrun := run_makeMap (P := P) t w
 unfold Oper.wp
 simp [execOp, hop, hrun, Result.andThen]
 exact hK' _ _ hK
theorem key_of (s : ByteArray) (hs : s.size ≤ maxLen) : keyOf Tryz.prog 9 (.string s) = some (.string s.data.toList) := by
 rw [keyOf_string Tryz.underlying9]
 simp [mapKey, Tryz.underlying9, hs]
def QuestO (w : World) (e : Ending) (w' : World) : Prop := ∃ b, e = .returned (.map (some b)) ∧ w'.ownsMap Tryz.prog 9 RF b 10 (qD 10) ∧ Below w.heap.size w w'
set_option maxRecDepth 100000 in
set_option maxHeartbeats 1600000 in
theorem questions_c (w : World) : Calls Tryz.prog 43 #[] w (QuestO w) := by
 have KS := Maps.string_keyed Tryz.underlying9
 have hO0 : (w.alloc (.map #[] 0)).ownsMap Tryz.prog 9 RF w.heap.size 0 (qD 0) := World.ownsMap_made w Tryz.prog 9 RF
 have hB0 : Below w.heap.size w (w.alloc (.map #[] 0)) := (Below.refl _ _).alloc (Nat.le_refl _) _
 go_enter Tryz.func43, Tryz.ntmps43
 go_wp2_with ((refine wpList_makeMap_own w rfl 71 rfl ?_; refine wpList_insert_own _ rfl _ _ _ 71 rfl 9 69 KS Tryz.underlying71 RF w.heap.size 0 (qD 0) rfl hO0 (by unfold maxLen; omega) (.string ⟨#[109, 97, 112]⟩) (.func (.func 105) #[] #[]) (.string [109, 97, 112]) rfl rfl (key_of _ (by decide)) (.lit (.int .i64 ((105 : Nat) : Int))) [] (RF_at 105) ?_; intro w1 hOx1 hg1; have hO1 : w1.ownsMap Tryz.prog 9 RF w.heap.size 1 (qD 1) := hOx1; have hB1 := hB0.grown hg1 hB0.size (fun k hk => by cases hk; exact Nat.le_refl _); refine wpList_insert_own _ rfl _ _ _ 71 rfl 9 69 KS Tryz.underlying71 RF w.heap.size 1 (qD 1) rfl hO1 (by unfold maxLen; omega) (.string ⟨#[105, 110, 100, 101, 120]⟩) (.func (.func 106) #[] #[]) (.string [105, 110, 100, 101, 120]) rfl rfl (key_of _ (by decide)) (.lit (.int .i64 ((106 : Nat) : Int))) [] (RF_at 106) ?_; intro w2 hOx2 hg2; have hO2 : w2.ownsMap Tryz.prog 9 RF w.heap.size 2 (qD 2) := hOx2; have hB2 := hB1.grown hg2 hB1.size (fun k hk => by cases hk; exact Nat.le_refl _); refine wpList_insert_own _ rfl _ _ _ 71 rfl 9 69 KS Tryz.underlying71 RF w.heap.size 2 (qD 2) rfl hO2 (by unfold maxLen; omega) (.string ⟨#[112, 101, 114, 105, 111, 100]⟩) (.func (.func 107) #[] #[]) (.string [112, 101, 114, 105, 111, 100]) rfl rfl (key_of _ (by decide)) (.lit (.int .i64 ((107 : Nat) : Int))) [] (RF_at 107) ?_; intro w3 hOx3 hg3; have hO3 : w3.ownsMap Tryz.prog 9 RF w.heap.size 3 (qD 3) := hOx3; have hB3 := hB2.grown hg3 hB2.size (fun k hk => by cases hk; exact Nat.le_refl _); refine wpList_insert_own _ rfl _ _ _ 71 rfl 9 69 KS Tryz.underlying71 RF w.heap.size 3 (qD 3) rfl hO3 (by unfold maxLen; omega) (.string ⟨#[108, 111, 111, 112, 115]⟩) (.func (.func 108) #[] #[]) (.string [108, 111, 111, 112, 115]) rfl rfl (key_of _ (by decide)) (.lit (.int .i64 ((108 : Nat) : Int))) [] (RF_at 108) ?_; intro w4 hOx4 hg4; have hO4 : w4.ownsMap Tryz.prog 9 RF w.heap.size 4 (qD 4) := hOx4; have hB4 := hB3.grown hg4 hB3.size (fun k hk => by cases hk; exact Nat.le_refl _); refine wpList_insert_own _ rfl _ _ _ 71 rfl 9 69 KS Tryz.underlying71 RF w.heap.size 4 (qD 4) rfl hO4 (by unfold maxLen; omega) (.string ⟨#[115, 104, 97, 112, 101]⟩) (.func (.func 109) #[] #[]) (.string [115, 104, 97, 112, 101]) rfl rfl (key_of _ (by decide)) (.lit (.int .i64 ((109 : Nat) : Int))) [] (RF_at 109) ?_; intro w5 hOx5 hg5; have hO5 : w5.ownsMap Tryz.prog 9 RF w.heap.size 5 (qD 5) := hOx5; have hB5 := hB4.grown hg5 hB4.size (fun k hk => by cases hk; exact Nat.le_refl _); refine wpList_insert_own _ rfl _ _ _ 71 rfl 9 69 KS Tryz.underlying71 RF w.heap.size 5 (qD 5) rfl hO5 (by unfold maxLen; omega) (.string ⟨#[105, 109, 97, 103, 101]⟩) (.func (.func 110) #[] #[]) (.string [105, 109, 97, 103, 101]) rfl rfl (key_of _ (by decide)) (.lit (.int .i64 ((110 : Nat) : Int))) [] (RF_at 110) ?_; intro w6 hOx6 hg6; have hO6 : w6.ownsMap Tryz.prog 9 RF w.heap.size 6 (qD 6) := hOx6; have hB6 := hB5.grown hg6 hB5.size (fun k hk => by cases hk; exact Nat.le_refl _); refine wpList_insert_own _ rfl _ _ _ 71 rfl 9 69 KS Tryz.underlying71 RF w.heap.size 6 (qD 6) rfl hO6 (by unfold maxLen; omega) (.string ⟨#[103, 97, 114, 100, 101, 110]⟩) (.func (.func 111) #[] #[]) (.string [103, 97, 114, 100, 101, 110]) rfl rfl (key_of _ (by decide)) (.lit (.int .i64 ((111 : Nat) : Int))) [] (RF_at 111) ?_; intro w7 hOx7 hg7; have hO7 : w7.ownsMap Tryz.prog 9 RF w.heap.size 7 (qD 7) := hOx7; have hB7 := hB6.grown hg7 hB6.size (fun k hk => by cases hk; exact Nat.le_refl _); refine wpList_insert_own _ rfl _ _ _ 71 rfl 9 69 KS Tryz.underlying71 RF w.heap.size 7 (qD 7) rfl hO7 (by unfold maxLen; omega) (.string ⟨#[99, 108, 111, 115, 101, 100]⟩) (.func (.func 112) #[] #[]) (.string [99, 108, 111, 115, 101, 100]) rfl rfl (key_of _ (by decide)) (.lit (.int .i64 ((112 : Nat) : Int))) [] (RF_at 112) ?_; intro w8 hOx8 hg8; have hO8 : w8.ownsMap Tryz.prog 9 RF w.heap.size 8 (qD 8) := hOx8; have hB8 := hB7.grown hg8 hB7.size (fun k hk => by cases hk; exact Nat.le_refl _); refine wpList_insert_own _ rfl _ _ _ 71 rfl 9 69 KS Tryz.underlying71 RF w.heap.size 8 (qD 8) rfl hO8 (by unfold maxLen; omega) (.string ⟨#[109, 97, 112, 115]⟩) (.func (.func 113) #[] #[]) (.string [109, 97, 112, 115]) rfl rfl (key_of _ (by decide)) (.lit (.int .i64 ((113 : Nat) : Int))) [] (RF_at 113) ?_; intro w9 hOx9 hg9; have hO9 : w9.ownsMap Tryz.prog 9 RF w.heap.size 9 (qD 9) := hOx9; have hB9 := hB8.grown hg9 hB8.size (fun k hk => by cases hk; exact Nat.le_refl _); refine wpList_insert_own _ rfl _ _ _ 71 rfl 9 69 KS Tryz.underlying71 RF w.heap.size 9 (qD 9) rfl hO9 (by unfold maxLen; omega) (.string ⟨#[99, 111, 100, 101]⟩) (.func (.func 114) #[] #[]) (.string [99, 111, 100, 101]) rfl rfl (key_of _ (by decide)) (.lit (.int .i64 ((114 : Nat) : Int))) [] (RF_at 114) ?_; intro w10 hOx10 hg10; have hO10 : w10.ownsMap Tryz.prog 9 RF w.heap.size 10 (qD 10) := hOx10; have hB10 := hB9.grown hg10 hB9.size (fun k hk => by cases hk; exact Nat.le_refl _)))
 go_ret
 exact ⟨w.heap.size, rfl, hO10, hB10⟩
end
end Go.Proofs.YtoinlkdmfclnbaaGreatDoor
