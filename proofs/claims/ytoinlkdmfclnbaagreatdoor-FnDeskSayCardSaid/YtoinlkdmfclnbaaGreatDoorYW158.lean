/- Bundle W158. -/
import Derived.Test.YtoinlkdmfclnbaaGreatDoorYV16
import Derived.Test.YtoinlkdmfclnbaaGreatDoorYVJ
namespace Go.Proofs.YtoinlkdmfclnbaaGreatDoor
set_option linter.unusedVariables false
section
open Go.RowKit
def LineR (w : World) (r1 : List Int) (r2 : List (List Int)) (t : ByteArray) (e : Ending) (w' : World) : Prop :=
 ∃ A n c P m d, e = .returned (.tuple #[.agg #[.slice A n c, .slice P m d], .string t]) ∧ RdD w' w'.heap.size A n c r1 P m d r2 ∧ FreshD w' w.heap.size A n c P m d ∧ Below w.heap.size w w'
theorem LineO.r {w w' : World} {r1 : List Int} {r2 : List (List Int)} {t : ByteArray} {e : Ending} (h : LineO w r1 r2 t e w') : LineR w r1 r2 t e w' := by
 obtain ⟨A, n, c, P, m, d, he, hO, hB⟩ := h
 exact ⟨A, n, c, P, m, d, he, hO.rd, hO.fresh, hB⟩
theorem sline_end {w wr : World} {L n c m d : Nat} {A P : Option Addr} {r1 : List Int} {r2 : List (List Int)} (t : ByteArray) (hR : Two wr (w.heap.size + 1) (.slice none 0 0) (.slice none 0 0)) (hD : RdD wr wr.heap.size A n c r1 P m d r2) (hF : FreshD wr L A n c P m d) (hL : w.heap.size + 2 ≤ L) (hB : Below w.heap.size w wr) :
    LineR w r1 r2 t (.returned (.tuple #[.agg #[.slice A n c, .slice P m d], .string t])) ((wr.setCell ⟨w.heap.size + 1, 0, none⟩ (.slice A n c)).setCell ⟨w.heap.size + 1, 1, none⟩ (.slice P m d)) ∧
    Two ((wr.setCell ⟨w.heap.size + 1, 0, none⟩ (.slice A n c)).setCell ⟨w.heap.size + 1, 1, none⟩ (.slice P m d)) (w.heap.size + 1) (.slice A n c) (.slice P m d) := by
 have hch : Chg (w.heap.size + 1) (w.heap.size + 2) wr ((wr.setCell ⟨w.heap.size + 1, 0, none⟩ (.slice A n c)).setCell ⟨w.heap.size + 1, 1, none⟩ (.slice P m d)) :=
  ((Chg.refl _ _ wr).setCell (p := ⟨w.heap.size + 1, 0, none⟩) (by simp) (by simp) _).setCell (p := ⟨w.heap.size + 1, 1, none⟩) (by simp) (by simp) _
 have hz := hB.size
 have hzr := hR.1
 exact ⟨⟨A, n, c, P, m, d, rfl, hD.chgF hF hch hL, (hF.chgF hD hch hL).more (by omega), hB.trans (hch.belowLo (B := w.heap.size) (by omega) (by omega))⟩, (hR.set0 _).set1 _⟩
set_option maxRecDepth 100000 in
set_option maxHeartbeats 3200000 in
theorem sLineDeed_c (A P : Option Addr) (n c m d : Nat) (xs : List Int) (yss : List (List Int)) (s : ByteArray) (kd a b : Int) (x : List UInt8) (w : World) (h : RdD w w.heap.size A n c xs P m d yss) (hok : deskOkB xs yss = true) (hs : s.size ≤ 2000000) (hr : rdV s.data.toList = ((kd, a, b, x), true)) :
    Calls Tryz.prog 10 #[.agg #[.slice A n c, .slice P m d], .string s] w (LineR w (doX xs yss kd a b (bl x)).1 (doX xs yss kd a b (bl x)).2.1 (okT (doX xs yss kd a b (bl x)).2.2)) := by
 have hx := dt_x hr
 have hx07 := desk_fit hok
 have hln := h.1.len
 have hW : Below w.heap.size w ((w.alloc (.cells #[.slice A n c, .slice P m d] 26)).alloc (.cells #[.slice none 0 0, .slice none 0 0] 26)) := ((Below.refl _ _).alloc (Nat.le_refl _) _).alloc (by simp) _
 have h1 := h.up hW
 have hr1 := Two.made (w.alloc (.cells #[.slice A n c, .slice P m d] 26)) 26 (.slice none 0 0) (.slice none 0 0)
 have ha := (Two.made w 26 (.slice A n c) (.slice P m d)).alloc (.cells #[.slice none 0 0, .slice none 0 0] 26)
 simp only [World.size_alloc] at hr1
 have K1 := sDeskOk_c A P n c m d xs yss _ h1
 rw [hok] at K1
 have KRD := fun W => sReadDeed_c s.data.toList W (by rw [Array.length_toList]; exact hs)
 rw [bl_of, hr] at KRD
 unfold RdOut at KRD
 simp only at KRD
 have KD := fun W (h : RdD W W.heap.size A n c xs P m d yss) => sDeskDo_c A P n c m d xs yss kd a b (bl x) W h (by rw [bl_size]; omega)
 unfold DoRd at KD
 generalize doX xs yss kd a b (bl x) = R at *
 obtain ⟨r1, r2, r3⟩ := R
 simp only at KD
 go_enter Tryz.func10, Tryz.ntmps10
 go_wp2_with fail
 generalize ((w.alloc (.cells #[.slice A n c, .slice P m d] 26)).alloc (.cells #[.slice none 0 0, .slice none 0 0] 26)) = w1 at *
 refine K1.mono ?_
 rintro e w2 ⟨rfl, hb2⟩
 have h2 := h1.up hb2
 have hr2 := hr1.up hb2
 have ha2 := ha.up hb2
 have hB2 := bt hW hb2
 obtain ⟨_, a0, a1, _, _⟩ := id ha2
 clear K1 h1 hr1 ha hW hb2
 go_wp2_with fail
 clear a0 a1
 refine (sCopy_c A P n c m d xs yss _ h2 (by omega) (by omega) hx07.2.2).mono ?_
 rintro e w3 ⟨A3, n3, c3, P3, m3, d3, rfl, hO3, hb3⟩
 have hbA := below_new w3 (.cells #[.slice A3 n3 c3, .slice P3 m3 d3] 26)
 have h4 := (h2.up hb3).up hbA
 have hr4 := (hr2.up hb3).up hbA
 have ha4 := (ha2.up hb3).up hbA
 have hB4 := bt (bt hB2 hb3) hbA
 clear h2 hr2 ha2 hB2 hb3 hbA hO3
 go_wp2_with fail
 generalize w3.alloc (.cells #[.slice A3 n3 c3, .slice P3 m3 d3] 26) = w4 at *
 refine (KRD w4).mono ?_
 rintro e w5 ⟨rfl, hb5⟩
 have hbA := below_new w5 (.cells #[.int .i64 kd, .int .i64 a, .int .i64 b, .string (bl x)] 55)
 have hF6 := Four.made w5 55 kd a b (bl x)
 have h6 := (h4.up hb5).up hbA
 have hr6 := (hr4.up hb5).up hbA
 have ha6 := (ha4.up hb5).up hbA
 have hB6 := bt (bt hB4 hb5) hbA
 clear KRD h4 hr4 ha4 hB4 hb5 hbA
 obtain ⟨_, a0, a1, _, _⟩ := id ha6
 obtain ⟨_, f0, f1, f2, f3⟩ := id hF6
 go_wp2_with fail
 generalize w5.alloc (.cells #[.int .i64 kd, .int .i64 a, .int .i64 b, .string (bl x)] 55) = w6 at *
 clear a0 a1 f0 f1 f2 f3
 refine (KD _ h6).mono ?_
 rintro e w7 ⟨A7, n7, c7, P7, m7, d7, rfl, h7, hb7, hf7, _, _⟩
 have hbA := below_new w7 (.cells #[.slice A7 n7 c7, .slice P7 m7 d7] 26)
 have hT8 := Two.made w7 26 (.slice A7 n7 c7) (.slice P7 m7 d7)
 have h8 := h7.up hbA
 have hf8 := hf7.upF h7 hbA
 have hr8 := (hr6.up hb7).up hbA
 have hB8 := bt (bt hB6 hb7) hbA
 have hlo : w.heap.size + 2 ≤ w6.heap.size := hr6.1
 clear KD h6 hr6 ha6 hB6 hF6 hb7 hbA h7 hf7
 obtain ⟨_, t0, t1, t2, t3⟩ := id hT8
 obtain ⟨_, s0, s1, s2, s3⟩ := id hr8
 rcases r3 with _ | _
 · obtain ⟨HE, HT⟩ := sline_end (w := w) (okT false) hr8 h8 hf8 hlo hB8
   have HE := Lib.hid HE
   have HT := Lib.hid HT
   clear hr8 h8 hf8 hB8 hT8
   go_wp2_with fail
   (try simp only [Exit.inBlock, Exit.then])
   refine bodyPost_ret (v := .tuple #[.agg #[.slice A7 n7 c7, .slice P7 m7 d7], .string (okT false)]) ?_ rfl HE.out
   exact Eq.trans (results_two_tmp (p := 4) (u := 5) rfl _ _ (w.heap.size + 1) _ _ _ rfl HT.out Tryz.underlying26 rfl desk_size) rfl
 · obtain ⟨HE, HT⟩ := sline_end (w := w) (okT true) hr8 h8 hf8 hlo hB8
   have HE := Lib.hid HE
   have HT := Lib.hid HT
   clear hr8 h8 hf8 hB8 hT8
   go_wp2_with fail
   (try simp only [Exit.inBlock, Exit.then])
   refine bodyPost_ret (v := .tuple #[.agg #[.slice A7 n7 c7, .slice P7 m7 d7], .string (okT true)]) ?_ rfl HE.out
   exact Eq.trans (results_two_tmp (p := 4) (u := 5) rfl _ _ (w.heap.size + 1) _ _ _ rfl HT.out Tryz.underlying26 rfl desk_size) rfl
set_option maxRecDepth 100000 in
set_option maxHeartbeats 800000 in
theorem sLineNo_c (A P : Option Addr) (n c m d : Nat) (xs : List Int) (yss : List (List Int)) (s : ByteArray) (w : World) (h : RdD w w.heap.size A n c xs P m d yss) (hok : deskOkB xs yss = false) :
    Calls Tryz.prog 10 #[.agg #[.slice A n c, .slice P m d], .string s] w (LineO w [] [] ⟨#[]⟩) := by
 have hW : Below w.heap.size w ((w.alloc (.cells #[.slice A n c, .slice P m d] 26)).alloc (.cells #[.slice none 0 0, .slice none 0 0] 26)) := ((Below.refl _ _).alloc (Nat.le_refl _) _).alloc (by simp) _
 have h1 := h.up hW
 have hr1 := Two.made (w.alloc (.cells #[.slice A n c, .slice P m d] 26)) 26 (.slice none 0 0) (.slice none 0 0)
 have ha := (Two.made w 26 (.slice A n c) (.slice P m d)).alloc (.cells #[.slice none 0 0, .slice none 0 0] 26)
 simp only [World.size_alloc] at hr1
 have K1 := sDeskOk_c A P n c m d xs yss _ h1
 rw [hok] at K1
 go_enter Tryz.func10, Tryz.ntmps10
 go_wp2_with fail
 generalize ((w.alloc (.cells #[.slice A n c, .slice P m d] 26)).alloc (.cells #[.slice none 0 0, .slice none 0 0] 26)) = w1 at *
 refine K1.mono ?_
 rintro e w2 ⟨rfl, hb2⟩
 have hr2 := hr1.up hb2
 have hB2 := bt hW hb2
 obtain ⟨_, s0, s1, s2, s3⟩ := id hr2
 have hz := hr2.1
 obtain ⟨HE, HT⟩ := line_end (w := w) ⟨#[]⟩ hr2 (OwnD.zero_ w2 (w.heap.size + 2) (w.heap.size + 2) (Nat.le_refl _)) (Nat.le_refl _) (by omega) hB2
 have HE := Lib.hid HE
 have HT := Lib.hid HT
 clear K1 h1 hr1 ha hW hb2 hr2 hB2
 go_wp2_with fail
 (try simp only [Exit.inBlock, Exit.then])
 refine bodyPost_ret (v := .tuple #[.agg #[.slice none 0 0, .slice none 0 0], .string ⟨#[]⟩]) ?_ rfl HE.out
 exact Eq.trans (results_two_tmp (p := 4) (u := 5) rfl _ _ (w.heap.size + 1) _ _ _ rfl HT.out Tryz.underlying26 rfl desk_size) rfl
theorem str_of {s : ByteArray} {l : List UInt8} (h : s.data.toList = l) : s = bl l := by rw [← bl_of s, h]
theorem sLine_c (A P : Option Addr) (n c m d : Nat) (xs : List Int) (yss : List (List Int)) (s : ByteArray) (w : World) (h : RdD w w.heap.size A n c xs P m d yss) (hs : s.size ≤ 2000000) :
    Calls Tryz.prog 10 #[.agg #[.slice A n c, .slice P m d], .string s] w (LineR w (lnX xs yss s.data.toList).1 (lnX xs yss s.data.toList).2.1 (lnX xs yss s.data.toList).2.2) := by
 rcases hok : deskOkB xs yss with _ | _
 · rw [lnX_no hok]
   exact (sLineNo_c A P n c m d xs yss s w h hok).mono fun _ _ h => h.r
 · rcases rdV_cases s.data.toList with ⟨kd, a, b, x, hr, _, _⟩ | hr
   · rw [lnX_deed hok hr]
     exact sLineDeed_c A P n c m d xs yss s kd a b x w h hok hs hr
   · obtain ⟨f, rfl, hf⟩ := mapOk_ex (desk_parts hok).1
     obtain rfl : f.length = n := by rw [← h.1.len, ints_len]
     rw [lnX_ask hok hr]
     unfold lineT
     rcases hq : qIx s.data.toList with _ | k
     · rcases hw : wayL s.data.toList with _ | t
       · exact (sWhat_c hf A P c m d yss s w h hok hs hr (qIx_none hq) hw).mono fun _ _ h => h.r
       · exact (sWay_c hf A P c m d yss s w h hok hs hr (qIx_none hq) t hw).mono fun _ _ h => h.r
     · obtain ⟨h10, he⟩ := qIx_some hq
       have hse := str_of he
       subst hse
       rcases lt10 h10 with rfl | rfl | rfl | rfl | rfl | rfl | rfl | rfl | rfl | rfl
       · exact (sq0_c hf A P c m d yss w h hok).mono fun _ _ h => h.r
       · exact (sq1_c hf A P c m d yss w h hok).mono fun _ _ h => h.r
       · exact (sq2_c hf A P c m d yss w h hok).mono fun _ _ h => h.r
       · exact (sq3_c hf A P c m d yss w h hok).mono fun _ _ h => h.r
       · exact (sq4_c hf A P c m d yss w h hok).mono fun _ _ h => h.r
       · exact (sq5_c hf A P c m d yss w h hok).mono fun _ _ h => h.r
       · exact (sq6_c hf A P c m d yss w h hok).mono fun _ _ h => h.r
       · exact (sq7_c hf A P c m d yss w h hok).mono fun _ _ h => h.r
       · exact (sq8_c hf A P c m d yss w h hok).mono fun _ _ h => h.r
       · exact (sq9_c hf A P c m d yss w h hok).mono fun _ _ h => h.r
end
end Go.Proofs.YtoinlkdmfclnbaaGreatDoor
