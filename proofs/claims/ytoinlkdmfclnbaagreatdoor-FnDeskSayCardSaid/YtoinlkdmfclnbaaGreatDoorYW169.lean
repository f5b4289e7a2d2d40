/- Bundle W169. -/
import Derived.Test.YtoinlkdmfclnbaaGreatDoorYVD
import Derived.Test.YtoinlkdmfclnbaaGreatDoorYVM
import Derived.Test.YtoinlkdmfclnbaaGreatDoorYW168
namespace Go.Proofs.YtoinlkdmfclnbaaGreatDoor
set_option linter.unusedVariables false
section
open Go.RowKit
theorem gT_take {ts : List ByteArray} {h k : Nat} (hk : k < h) : gT (ts.take h) k = gT ts k := by
 simp [gT, List.getD, hk]
theorem gT_drop (ts : List ByteArray) (h k : Nat) : gT (ts.drop h) k = gT ts (h + k) := by
 simp [gT, List.getD, List.getElem?_drop]
theorem RdT.dropAt_ {w : World} {B n c b off : Nat} {ts : List ByteArray} (hR : RdT w B (some ⟨b, off, none⟩) n c ts) {h : Nat} (hh : h ≤ n) : RdT w B (some ⟨b, off + h, none⟩) (n - h) (c - h) (ts.drop h) := by
 refine ⟨by rw [List.length_drop, hR.1], by have := hR.cap; omega, by have := hR.max; omega, fun hp => ?_⟩
 obtain ⟨b', off', e, hb, hc⟩ := hR.2.2.2 (by omega)
 cases e
 refine ⟨b, off + h, rfl, hb, fun k hk => ?_⟩
 have := hc (h + k) (by omega)
 rw [gT_drop, show off + h + k = off + (h + k) by omega]
 exact this
theorem RdT.drop_any {w : World} {B n c : Nat} {E : Option Addr} {ts : List ByteArray} (hR : RdT w B E n c ts) {h : Nat} (hh : h ≤ n) : RdT w B (if c = h then E else E.map (·.add h)) (n - h) (c - h) (ts.drop h) := by
 refine ⟨by rw [List.length_drop, hR.1], by have := hR.cap; omega, by have := hR.max; omega, fun hp => ?_⟩
 have hc := hR.cap
 obtain ⟨b, off, e, hb, hx⟩ := hR.2.2.2 (by omega)
 subst e
 rw [if_neg (by omega)]
 have h9 := (hR.dropAt_ hh).2.2.2 hp
 rw [Option.map_some]
 rw [show (⟨b, off, none⟩ : Addr).add h = ⟨b, off + h, none⟩ from by unfold Addr.add; split <;> simp_all]
 exact h9
theorem wpList_strip {P : Program} {ops : Array Oper} {rest : List Oper} {o : Oper} {a : Act} {Q : Exit → Act → World → Prop} {w : World} (hw : Region.wanted o (yielded ops a.tmps) = true) (h : wpList P ops Q ({ o with guard := none } :: rest) a w) : wpList P ops Q (o :: rest) a w := by
 unfold wpList at h ⊢
 rw [if_pos hw]
 have h0 : Region.wanted { o with guard := none } (yielded ops a.tmps) = true := by simp [Region.wanted]
 rw [if_pos h0] at h
 exact h
theorem appT {ops : Array Oper} {rest : List Oper} {o : Oper} {a : Act} {Q : Exit → Act → World → Prop} (w : World) (s x : Operand)
    (ho : o.op = .call { callee := .builtin .append, args := #[s, x], argTypes := #[34, 34] }) (hg0 : o.guard = none)
    (B : Nat) (v : Value) (us : List ByteArray) (hs : a.eval s = v) (hown : OwnS w B v us) (A : Option Addr) (n c : Nat) (ts : List ByteArray) (hx : a.eval x = .slice A n c) (hr : RdT w w.heap.size A n c ts)
    (hlen : n ≤ 1000000000) (hlen2 : us.length ≤ 1000000000) (hB : B ≤ w.heap.size)
    (h : ∀ v' w', OwnS w' B v' (us ++ ts) → Below B w w' → wpList Tryz.prog ops Q rest (a.put o.dst v') w') :
    wpList Tryz.prog ops Q (o :: rest) a w := by
 obtain ⟨i0, hi, hz0, hz1, hz2⟩ := info_parts text_info
 have hl := hr.len
 rcases Nat.eq_zero_or_pos n with h0 | h0
 · subst h0
   obtain rfl : ts = [] := List.eq_nil_of_length_eq_zero hl
   rw [List.append_nil] at h
   obtain ⟨T, cc, rfl, hRv⟩ := hown.slice_
   have hcc := hRv.cap
   refine wpList_plain hg0 fun K hK => ?_
   have hrun : (Builtin.append_ #[34, 34] o.type #[.slice T us.length cc, .slice A 0 c]).run Tryz.prog w = .ok (.slice T us.length cc) w := by
    rcases A with _ | p
    · rcases T with _ | q
      · simp [Builtin.append_, run_underlying Tryz.underlying34, sizeOf, typeInfo, hi, Builtin.lenOf, Builtin.firstCells, hcc]
      · simp [Builtin.append_, run_underlying Tryz.underlying34, sizeOf, typeInfo, hi, Builtin.lenOf, Builtin.firstCells, storeCells, hcc]
    · rcases T with _ | q
      · simp [Builtin.append_, run_underlying Tryz.underlying34, sizeOf, typeInfo, hi, Builtin.lenOf, Builtin.firstCells, loadCells, loadCellsFrom, hcc]
      · simp [Builtin.append_, run_underlying Tryz.underlying34, sizeOf, typeInfo, hi, Builtin.lenOf, Builtin.firstCells, storeCells, loadCells, loadCellsFrom, hcc]
   unfold Oper.wp
   simp [execOp, ho, resolve, invoke, builtin, hs, hx, hrun, Result.andThen]
   exact hK _ _ (h _ _ hown (Below.refl _ _))
 · obtain ⟨b, off, rfl, hb, hcell⟩ := hr.2.2.2 h0
   refine wpList_append_own _ hg0 s x 34 ho B 9 i0 (.string ⟨#[]⟩) 1 16 Tryz.underlying34 hi hz0 hz1 hz2 rfl (by decide) v us.length (us.map Value.string) hs hown ⟨b, off, none⟩ n c (ts.map Value.string) hx (by simp [hl]) (fun j u hj => ?_) (by simp [Value.oneCell']) (by unfold maxLen; omega) (by omega) (by omega) ?_
   · have hjn : j < n := by
      rcases Nat.lt_or_ge j (ts.map Value.string).length with h' | h'
      · rw [List.length_map, hl] at h'; exact h'
      · rw [List.getElem?_eq_none h'] at hj; cases hj
     rw [Addr.add_lit, hcell j hjn]
     rw [List.getElem?_map, List.getElem?_eq_getElem (by omega)] at hj
     simp only [Option.map_some, Option.some.injEq] at hj
     rw [← hj, gT_get (by omega)]
   · intro v' w' hown' hg _
     refine h v' w' ?_ ((Below.refl B w).grown hg hB (fun k hk => (hown.lt k hk).1))
     unfold OwnS
     rw [List.length_append, hl, List.map_append]
     exact hown'
def CutY (wj wx : World) (s6 s7 : Value) (r1 : List Int) (r2 : List (List Int)) (zs : List ByteArray) : Prop :=
 ∃ g A n c P m d T N C, s6 = .pointer (some ⟨g, 0, none⟩) ∧ s7 = .slice T N C ∧ Two wx g (.slice A n c) (.slice P m d) ∧ Below wj.heap.size wj wx ∧ RdD wx wx.heap.size A n c r1 P m d r2 ∧ RdT wx wx.heap.size T N C zs
section
variable {wj wx : World} {A P T : Option Addr} {n c m d N C l1 h1 l2 h2 : Nat} {r1 : List Int} {r2 : List (List Int)} {zs : List ByteArray}
theorem cutY_last (hb : Below wj.heap.size wj wx) (hO : OwnD wx l1 h1 A n c r1 P m d r2) (hP : OwnP wx l2 h2 T N C zs) : CutY wj (wx.alloc (.cells #[.slice A n c, .slice P m d] 26)) (.pointer (some ⟨wx.heap.size, 0, none⟩)) (.slice T N C) r1 r2 zs :=
 ⟨_, _, _, _, _, _, _, _, _, _, rfl, rfl, Two.made wx _ _ _, bt hb (below_new _ _), hO.rd.up (below_new _ _), hP.rd.up (below_new _ _)⟩
theorem cutY_early (hb : Below wj.heap.size wj wx) (hO : OwnD wx l1 h1 A n c r1 P m d r2) (hP : OwnP wx l2 h2 T N C zs) (hg : Two wx wj.heap.size (.slice none 0 0) (.slice none 0 0)) (hl1 : wj.heap.size + 1 ≤ l1) (hl2 : wj.heap.size + 1 ≤ l2) :
    CutY wj ((wx.setCell ⟨wj.heap.size, 0, none⟩ (.slice A n c)).setCell ⟨wj.heap.size, 1, none⟩ (.slice P m d)) (.pointer (some ⟨wj.heap.size, 0, none⟩)) (.slice T N C) r1 r2 zs := by
 have hg1 := hg.set0 (.slice A n c)
 have hch : Chg wj.heap.size (wj.heap.size + 1) wx ((wx.setCell ⟨wj.heap.size, 0, none⟩ (.slice A n c)).setCell ⟨wj.heap.size, 1, none⟩ (.slice P m d)) :=
  ((Chg.refl _ _ wx).setCell (p := ⟨wj.heap.size, 0, none⟩) (Nat.le_refl _) (Nat.lt_succ_self _) _).setCell (p := ⟨wj.heap.size, 1, none⟩) (Nat.le_refl _) (Nat.lt_succ_self _) _
 exact ⟨wj.heap.size, A, n, c, P, m, d, T, N, C, rfl, rfl, hg1.set1 _, (hb.setCell (Nat.le_refl _) _).setCell (Nat.le_refl _) _, (hO.chg hch (.inr hl1)).rd, (hP.chg hch (.inr hl2)).rd⟩
end
set_option maxRecDepth 100000 in
set_option maxHeartbeats 6400000 in
theorem walk_FnDeskSay (A : Option Addr) (n c : Nat) (bs : List Nat) (w : World) (hg : Glo w) (h : RdB w w.heap.size A n c bs) :
    Calls Tryz.prog 4 #[.slice A n c] w fun e w' => e = .returned (.bool true) ∧ Below w.heap.size w w' := by
 have hmx := h.max
 have hcp := h.cap
 unfold maxLen at hmx
 by_cases hbig : 1048576 < n
 · go_enter Tryz.func4, Tryz.ntmps4
   go_wp2_with fail
   go_ret
   exact ⟨rfl, Below.refl _ _⟩
 go_enter Tryz.func4, Tryz.ntmps4
 go_wp2_with fail
 refine (drawDeskSay_c A n c bs _ h).mono ?_
 rintro e w1 ⟨A1, n1, c1, xs, P1, m1, d1, yss, E, N, C, ts, rfl, D1, L1, hL, hN41, HB1⟩
 have HLN := Lib.hid hL
 obtain ⟨r1, r2, zs, hfit, hval, KS, KI⟩ := deskSay_any xs yss ts hL
 have HQ : Hid ((eqB r1 r1 && eqBB r2 r2) = true) := Lib.hid (by rw [eqB_self, eqBB_self]; rfl)
 have HQZ : Hid (eqTs zs zs = true) := Lib.hid (eqTs_self zs)
 have HV := Lib.hid hval
 clear hL hval hfit
 have TD2 := Two.made w1 26 (.slice A1 n1 c1) (.slice P1 m1 d1)
 have hb2 : Below w1.heap.size w1 (w1.alloc (.cells #[.slice A1 n1 c1, .slice P1 m1 d1] 26)) := below_new _ _
 have HB2 : Below w.heap.size w (w1.alloc (.cells #[.slice A1 n1 c1, .slice P1 m1 d1] 26)) := bt HB1 hb2
 have D2 : RdD (w1.alloc (.cells #[.slice A1 n1 c1, .slice P1 m1 d1] 26)) (w1.alloc (.cells #[.slice A1 n1 c1, .slice P1 m1 d1] 26)).heap.size A1 n1 c1 xs P1 m1 d1 yss := D1.up hb2
 have L2 : RdT (w1.alloc (.cells #[.slice A1 n1 c1, .slice P1 m1 d1] 26)) (w1.alloc (.cells #[.slice A1 n1 c1, .slice P1 m1 d1] 26)).heap.size E N C ts := L1.up hb2
 have hz2 := hb2.size
 clear HB1 D1 L1
 obtain ⟨_, qTD0, qTD1, _, _⟩ := id TD2
 go_wp2_with fail
 clear qTD0 qTD1
 generalize (w1.alloc (.cells #[.slice A1 n1 c1, .slice P1 m1 d1] 26)) = w2 at *
 refine (KI _ _ _ _ _ _ _ _ _ _ D2 L2 (hg.up HB2)).mono ?_
 rintro e w3 ⟨A3, n3, c3, P3, m3, d3, T3, N3, C3, la3, ha3, lb3, hc3, rfl, hO3, hP3, -, -, -, -, -, -, hb3⟩
 have X3 := hO3.rd
 have V3 := hP3.rd
 clear hO3 hP3
 have HB3 : Below w.heap.size w w3 := bt HB2 hb3
 have D3 : RdD w3 w3.heap.size A1 n1 c1 xs P1 m1 d1 yss := D2.up hb3
 have L3 : RdT w3 w3.heap.size E N C ts := L2.up hb3
 have TD3 : Two w3 w1.heap.size (.slice A1 n1 c1) (.slice P1 m1 d1) := TD2.up hb3
 have hz3 := hb3.size
 clear HB2 D2 L2 TD2
 have TX4 := Two.made w3 26 (.slice A3 n3 c3) (.slice P3 m3 d3)
 have hb4 : Below w3.heap.size w3 (w3.alloc (.cells #[.slice A3 n3 c3, .slice P3 m3 d3] 26)) := below_new _ _
 have HB4 : Below w.heap.size w (w3.alloc (.cells #[.slice A3 n3 c3, .slice P3 m3 d3] 26)) := bt HB3 hb4
 have D4 : RdD (w3.alloc (.cells #[.slice A3 n3 c3, .slice P3 m3 d3] 26)) (w3.alloc (.cells #[.slice A3 n3 c3, .slice P3 m3 d3] 26)).heap.size A1 n1 c1 xs P1 m1 d1 yss := D3.up hb4
 have L4 : RdT (w3.alloc (.cells #[.slice A3 n3 c3, .slice P3 m3 d3] 26)) (w3.alloc (.cells #[.slice A3 n3 c3, .slice P3 m3 d3] 26)).heap.size E N C ts := L3.up hb4
 have TD4 : Two (w3.alloc (.cells #[.slice A3 n3 c3, .slice P3 m3 d3] 26)) w1.heap.size (.slice A1 n1 c1) (.slice P1 m1 d1) := TD3.up hb4
 have X4 : RdD (w3.alloc (.cells #[.slice A3 n3 c3, .slice P3 m3 d3] 26)) (w3.alloc (.cells #[.slice A3 n3 c3, .slice P3 m3 d3] 26)).heap.size A3 n3 c3 r1 P3 m3 d3 r2 := X3.up hb4
 have V4 : RdT (w3.alloc (.cells #[.slice A3 n3 c3, .slice P3 m3 d3] 26)) (w3.alloc (.cells #[.slice A3 n3 c3, .slice P3 m3 d3] 26)).heap.size T3 N3 C3 zs := V3.up hb4
 have hz4 := hb4.size
 clear HB3 D3 L3 TD3 X3 V3
 obtain ⟨_, qTD0, qTD1, _, _⟩ := id TD4
 go_wp2_with fail
 clear qTD0 qTD1
 generalize (w3.alloc (.cells #[.slice A3 n3 c3, .slice P3 m3 d3] 26)) = w4 at *
 refine (KS _ _ _ _ _ _ _ _ _ _ D4 L4).mono ?_
 rintro e w5 ⟨A5, n5, c5, P5, m5, d5, T5, N5, C5, rfl, Y5, U5, hb5⟩
 have HB5 : Below w.heap.size w w5 := bt HB4 hb5
 have D5 : RdD w5 w5.heap.size A1 n1 c1 xs P1 m1 d1 yss := D4.up hb5
 have L5 : RdT w5 w5.heap.size E N C ts := L4.up hb5
 have TD5 : Two w5 w1.heap.size (.slice A1 n1 c1) (.slice P1 m1 d1) := TD4.up hb5
 have X5 : RdD w5 w5.heap.size A3 n3 c3 r1 P3 m3 d3 r2 := X4.up hb5
 have V5 : RdT w5 w5.heap.size T3 N3 C3 zs := V4.up hb5
 have TX5 : Two w5 w3.heap.size (.slice A3 n3 c3) (.slice P3 m3 d3) := TX4.up hb5
 have hz5 := hb5.size
 clear HB4 D4 L4 TD4 X4 V4 TX4
 have TY6 := Two.made w5 26 (.slice A5 n5 c5) (.slice P5 m5 d5)
 have hb6 : Below w5.heap.size w5 (w5.alloc (.cells #[.slice A5 n5 c5, .slice P5 m5 d5] 26)) := below_new _ _
 have HB6 : Below w.heap.size w (w5.alloc (.cells #[.slice A5 n5 c5, .slice P5 m5 d5] 26)) := bt HB5 hb6
 have D6 : RdD (w5.alloc (.cells #[.slice A5 n5 c5, .slice P5 m5 d5] 26)) (w5.alloc (.cells #[.slice A5 n5 c5, .slice P5 m5 d5] 26)).heap.size A1 n1 c1 xs P1 m1 d1 yss := D5.up hb6
 have L6 : RdT (w5.alloc (.cells #[.slice A5 n5 c5, .slice P5 m5 d5] 26)) (w5.alloc (.cells #[.slice A5 n5 c5, .slice P5 m5 d5] 26)).heap.size E N C ts := L5.up hb6
 have TD6 : Two (w5.alloc (.cells #[.slice A5 n5 c5, .slice P5 m5 d5] 26)) w1.heap.size (.slice A1 n1 c1) (.slice P1 m1 d1) := TD5.up hb6
 have X6 : RdD (w5.alloc (.cells #[.slice A5 n5 c5, .slice P5 m5 d5] 26)) (w5.alloc (.cells #[.slice A5 n5 c5, .slice P5 m5 d5] 26)).heap.size A3 n3 c3 r1 P3 m3 d3 r2 := X5.up hb6
 have V6 : RdT (w5.alloc (.cells #[.slice A5 n5 c5, .slice P5 m5 d5] 26)) (w5.alloc (.cells #[.slice A5 n5 c5, .slice P5 m5 d5] 26)).heap.size T3 N3 C3 zs := V5.up hb6
 have TX6 : Two (w5.alloc (.cells #[.slice A5 n5 c5, .slice P5 m5 d5] 26)) w3.heap.size (.slice A3 n3 c3) (.slice P3 m3 d3) := TX5.up hb6
 have Y6 : RdD (w5.alloc (.cells #[.slice A5 n5 c5, .slice P5 m5 d5] 26)) (w5.alloc (.cells #[.slice A5 n5 c5, .slice P5 m5 d5] 26)).heap.size A5 n5 c5 r1 P5 m5 d5 r2 := Y5.up hb6
 have U6 : RdT (w5.alloc (.cells #[.slice A5 n5 c5, .slice P5 m5 d5] 26)) (w5.alloc (.cells #[.slice A5 n5 c5, .slice P5 m5 d5] 26)).heap.size T5 N5 C5 zs := U5.up hb6
 have hz6 := hb6.size
 clear HB5 D5 L5 TD5 X5 V5 TX5 Y5 U5
 obtain ⟨_, qTX0, qTX1, _, _⟩ := id TX6
 obtain ⟨_, qTY0, qTY1, _, _⟩ := id TY6
 go_wp2_with fail
 clear qTX0 qTX1 qTY0 qTY1
 generalize (w5.alloc (.cells #[.slice A5 n5 c5, .slice P5 m5 d5] 26)) = w6 at *
 refine (sameDesk_c A3 P3 A5 P5 n3 c3 m3 d3 n5 c5 m5 d5 r1 r1 r2 r2 w6 X6 Y6).mono ?_
 rintro e w7 ⟨rfl, hb7⟩
 rw [HQ.out]
 have HB7 : Below w.heap.size w w7 := bt HB6 hb7
 have D7 : RdD w7 w7.heap.size A1 n1 c1 xs P1 m1 d1 yss := D6.up hb7
 have L7 : RdT w7 w7.heap.size E N C ts := L6.up hb7
 have TD7 : Two w7 w1.heap.size (.slice A1 n1 c1) (.slice P1 m1 d1) := TD6.up hb7
 have X7 : RdD w7 w7.heap.size A3 n3 c3 r1 P3 m3 d3 r2 := X6.up hb7
 have V7 : RdT w7 w7.heap.size T3 N3 C3 zs := V6.up hb7
 have TX7 : Two w7 w3.heap.size (.slice A3 n3 c3) (.slice P3 m3 d3) := TX6.up hb7
 have Y7 : RdD w7 w7.heap.size A5 n5 c5 r1 P5 m5 d5 r2 := Y6.up hb7
 have U7 : RdT w7 w7.heap.size T5 N5 C5 zs := U6.up hb7
 have TY7 : Two w7 w5.heap.size (.slice A5 n5 c5) (.slice P5 m5 d5) := TY6.up hb7
 have hz7 := hb7.size
 clear HB6 D6 L6 TD6 X6 V6 TX6 Y6 U6 TY6
 go_wp2_with fail
 refine (sameTexts_c _ _ _ _ _ _ zs zs _ V7 U7).mono ?_
 rintro e w8 ⟨rfl, hb8⟩
 rw [HQZ.out]
 have HB8 : Below w.heap.size w w8 := bt HB7 hb8
 have D8 : RdD w8 w8.heap.size A1 n1 c1 xs P1 m1 d1 yss := D7.up hb8
 have L8 : RdT w8 w8.heap.size E N C ts := L7.up hb8
 have TD8 : Two w8 w1.heap.size (.slice A1 n1 c1) (.slice P1 m1 d1) := TD7.up hb8
 have X8 : RdD w8 w8.heap.size A3 n3 c3 r1 P3 m3 d3 r2 := X7.up hb8
 have V8 : RdT w8 w8.heap.size T3 N3 C3 zs := V7.up hb8
 have TX8 : Two w8 w3.heap.size (.slice A3 n3 c3) (.slice P3 m3 d3) := TX7.up hb8
 have U8 : RdT w8 w8.heap.size T5 N5 C5 zs := U7.up hb8
 have hz8 := hb8.size
 clear HB7 D7 L7 TD7 X7 V7 TX7 U7
 have hmL := L8.max
 have hcL := L8.cap
 have hlL := L8.len
 have hmV := V8.max
 have hcV := V8.cap
 have hlV := V8.len
 unfold maxLen at hmL hmV
 obtain ⟨_, qTD0, qTD1, _, _⟩ := id TD8
 go_wp2_with fail
 clear qTD0 qTD1
 refine (sDeskOk_c A1 P1 n1 c1 m1 d1 xs yss w8 D8).mono ?_
 rintro e w9 ⟨rfl, hb9⟩
 have HB9 : Below w.heap.size w w9 := bt HB8 hb9
 have D9 : RdD w9 w9.heap.size A1 n1 c1 xs P1 m1 d1 yss := D8.up hb9
 have L9 : RdT w9 w9.heap.size E N C ts := L8.up hb9
 have TD9 : Two w9 w1.heap.size (.slice A1 n1 c1) (.slice P1 m1 d1) := TD8.up hb9
 have X9 : RdD w9 w9.heap.size A3 n3 c3 r1 P3 m3 d3 r2 := X8.up hb9
 have V9 : RdT w9 w9.heap.size T3 N3 C3 zs := V8.up hb9
 have TX9 : Two w9 w3.heap.size (.slice A3 n3 c3) (.slice P3 m3 d3) := TX8.up hb9
 have hz9 := hb9.size
 clear HB8 D8 L8 TD8 X8 V8 TX8
 rcases hok : deskOkB xs yss with _ | _
 · have e0 : (r1, r2, zs) = (([] : List Int), ([] : List (List Int)), ([] : List ByteArray)) := by rw [HV.out]; unfold sayX sayB; rw [hok]; rfl
   clear HQ HQZ HV KS KI hok
   simp only [Prod.mk.injEq] at e0
   obtain ⟨rfl, rfl, rfl⟩ := e0
   have hN30 : N3 = 0 := by rw [← hlV]; rfl
   subst hN30
   obtain ⟨_, qTX0, qTX1, _, _⟩ := id TX9
   go_wp2_with fail
   clear qTX0 qTX1
   refine (noDesk_c A3 P3 n3 c3 m3 d3 [] [] _ X9).mono ?_
   rintro e w10 ⟨rfl, hb10⟩
   rw [show (eqB [] [] && eqBB [] []) = true from rfl]
   have HB10 : Below w.heap.size w w10 := bt HB9 hb10
   have D10 : RdD w10 w10.heap.size A1 n1 c1 xs P1 m1 d1 yss := D9.up hb10
   have L10 : RdT w10 w10.heap.size E N C ts := L9.up hb10
   have TD10 : Two w10 w1.heap.size (.slice A1 n1 c1) (.slice P1 m1 d1) := TD9.up hb10
   have X10 : RdD w10 w10.heap.size A3 n3 c3 [] P3 m3 d3 [] := X9.up hb10
   have V10 : RdT w10 w10.heap.size T3 0 C3 [] := V9.up hb10
   have TX10 : Two w10 w3.heap.size (.slice A3 n3 c3) (.slice P3 m3 d3) := TX9.up hb10
   have hz10 := hb10.size
   clear HB9 D9 L9 TD9 X9 V9 TX9
   go_wp2_with fail
   refine (alive_c _).mono ?_
   rintro e w11 ⟨rfl, hb11⟩
   have HBE := bt HB10 hb11
   go_wp2_with fail
   go_ret
   exact ⟨rfl, HBE⟩
 · by_cases h40 : 40 < N
   · have e0 : (r1, r2, zs) = (([] : List Int), ([] : List (List Int)), ([] : List ByteArray)) := by rw [HV.out]; unfold sayX sayB; rw [hok, Bool.true_and, decide_eq_false (by omega)]; rfl
     have h40i : (40 : Int) < (N : Int) := by omega
     clear HQ HQZ HV KS KI hok
     simp only [Prod.mk.injEq] at e0
     obtain ⟨rfl, rfl, rfl⟩ := e0
     have hN30 : N3 = 0 := by rw [← hlV]; rfl
     subst hN30
     obtain ⟨_, qTX0, qTX1, _, _⟩ := id TX9
     go_wp2_with fail
     clear qTX0 qTX1
     refine (noDesk_c A3 P3 n3 c3 m3 d3 [] [] _ X9).mono ?_
     rintro e w10 ⟨rfl, hb10⟩
     rw [show (eqB [] [] && eqBB [] []) = true from rfl]
     have HB10 : Below w.heap.size w w10 := bt HB9 hb10
     have D10 : RdD w10 w10.heap.size A1 n1 c1 xs P1 m1 d1 yss := D9.up hb10
     have L10 : RdT w10 w10.heap.size E N C ts := L9.up hb10
     have TD10 : Two w10 w1.heap.size (.slice A1 n1 c1) (.slice P1 m1 d1) := TD9.up hb10
     have X10 : RdD w10 w10.heap.size A3 n3 c3 [] P3 m3 d3 [] := X9.up hb10
     have V10 : RdT w10 w10.heap.size T3 0 C3 [] := V9.up hb10
     have TX10 : Two w10 w3.heap.size (.slice A3 n3 c3) (.slice P3 m3 d3) := TX9.up hb10
     have hz10 := hb10.size
     clear HB9 D9 L9 TD9 X9 V9 TX9
     go_wp2_with fail
     refine (alive_c _).mono ?_
     rintro e w11 ⟨rfl, hb11⟩
     have HBE := bt HB10 hb11
     go_wp2_with fail
     go_ret
     exact ⟨rfl, HBE⟩
   · have h40i : ¬ (40 : Int) < (N : Int) := by omega
     obtain ⟨H, hH, hHN⟩ : ∃ H : Nat, (N : Int) / 2 = (H : Int) ∧ H ≤ N := ⟨N / 2, by omega, by omega⟩
     go_upto_region 11 with fail
     obtain ⟨f1, f2, k1, y1, y2, k2, v1, v2, v3, hok2, hne2, hlen2⟩ := sayX_two H hok (show ts.length ≤ 40 by omega)
     obtain ⟨p1, p2, q1, hfit1, hval1, _, KJ⟩ := deskSay_any xs yss (ts.take H) (fun k hk => by rw [List.length_take] at hk; rw [gT_take (by omega)]; exact HLN.out k (by omega))
     rw [v1] at hval1
     simp only [Prod.mk.injEq] at hval1
     obtain ⟨rfl, rfl, rfl⟩ := hval1
     clear hH KS KI
     go_cut [10, 11] (fun s10 s11 wx => CutY w9 wx s10 s11 p1 p2 q1)
     case first =>
      have hTd : Two w9.drew w1.heap.size (.slice A1 n1 c1) (.slice P1 m1 d1) := TD9
      have hgz := hTd.1
      have hOd : RdD w9.drew w9.drew.heap.size A1 n1 c1 xs P1 m1 d1 yss := D9
      have hEd : RdT w9.drew w9.drew.heap.size E H C (ts.take H) := (L9.take_ hHN)
      have hGd : Glo w9.drew := hg.up (bd HB9 1)
      have hne8 : ¬ w9.heap.size = w1.heap.size := fun e => by have : w1.heap.size < w9.heap.size := hgz; omega
      have hHC : H ≤ C := by omega
      have hHi : (H : Int) ≤ (C : Int) := by omega
      have hH0 : (0 : Int) ≤ (H : Int) := Int.natCast_nonneg _
      have hzd : w9.heap.size ≤ w9.drew.heap.size := Nat.le_refl _
      have Y0 := Lib.hid (show World.cell? w9.drew ⟨w1.heap.size, 0, none⟩ = some (.slice A1 n1 c1) ∧ World.cell? w9.drew ⟨w1.heap.size, 1, none⟩ = some (.slice P1 m1 d1) from ⟨hTd.2.1, hTd.2.2.1⟩)
      have KA0 : Hid (∀ o, World.cell? (w9.drew.alloc o) ⟨w1.heap.size, 0, none⟩ = some (.slice A1 n1 c1) ∧ World.cell? (w9.drew.alloc o) ⟨w1.heap.size, 1, none⟩ = some (.slice P1 m1 d1)) := Lib.hid (fun o => ⟨((below_new w9.drew o).cell (p := ⟨w1.heap.size, 0, none⟩) hgz).trans Y0.out.1, ((below_new w9.drew o).cell (p := ⟨w1.heap.size, 1, none⟩) hgz).trans Y0.out.2⟩)
      clear HB9 D9 L9 TD9 X9 V9 TX9
      go_region_held3 (fun w' => World.cell? w' ⟨w1.heap.size, 0, none⟩ = some (.slice A1 n1 c1) ∧ World.cell? w' ⟨w1.heap.size, 1, none⟩ = some (.slice P1 m1 d1))
       (first
        | exact Y0.out
        | exact KA0.out _
        | exact Y5.out
        | exact KA5.out _
        | exact KF.out _ _)
       (first
        | (go_at_call 17; refine (KJ _ _ _ _ _ _ _ _ _ _ (by first | exact hOd | exact hOd.up (below_new _ _)) (by first | exact hEd | exact hEd.up (below_new _ _)) (by first | exact hGd | exact hGd.up (below_new _ _))).mono ?_; rintro e w90 ⟨A90, n90, c90, P90, m90, d90, T90, N90, C90, la90, ha90, lb90, hc90, rfl, h90, hp90, hu1, hu2, hu3, hu4, hu5, hu6, hx90⟩; have hb90 : Below w9.drew.heap.size w9.drew w90 := (by first | exact hx90 | exact below_of_alloc hx90); have hTb := hTd.up hb90; (try have tz90 : Two w90 w9.heap.size (.slice none 0 0) (.slice none 0 0) := (Two.made w9.drew _ _ _).up hx90); (try obtain ⟨_, z0, z1, z2, z3⟩ := id tz90); have hz90 := hb90.size; have Y5 := Lib.hid (show World.cell? w90 ⟨w1.heap.size, 0, none⟩ = some (.slice A1 n1 c1) ∧ World.cell? w90 ⟨w1.heap.size, 1, none⟩ = some (.slice P1 m1 d1) from ⟨hTb.2.1, hTb.2.2.1⟩); have KA5 : Hid (∀ o, World.cell? (w90.alloc o) ⟨w1.heap.size, 0, none⟩ = some (.slice A1 n1 c1) ∧ World.cell? (w90.alloc o) ⟨w1.heap.size, 1, none⟩ = some (.slice P1 m1 d1)) := Lib.hid (fun o => ⟨((below_new w90 o).cell (p := ⟨w1.heap.size, 0, none⟩) hTb.1).trans hTb.2.1, ((below_new w90 o).cell (p := ⟨w1.heap.size, 1, none⟩) hTb.1).trans hTb.2.2.1⟩); have KF : Hid (∀ y z, World.cell? ((w90.setCell ⟨w9.heap.size, 0, none⟩ y).setCell ⟨w9.heap.size, 1, none⟩ z) ⟨w1.heap.size, 0, none⟩ = some (.slice A1 n1 c1) ∧ World.cell? ((w90.setCell ⟨w9.heap.size, 0, none⟩ y).setCell ⟨w9.heap.size, 1, none⟩ z) ⟨w1.heap.size, 1, none⟩ = some (.slice P1 m1 d1)) := Lib.hid (fun y z => ⟨by rw [World.cell?_setCell_other _ _ _ _ (by intro e; exact hne8 (congrArg Addr.block e)), World.cell?_setCell_other _ _ _ _ (by intro e; exact hne8 (congrArg Addr.block e))]; exact hTb.2.1, by rw [World.cell?_setCell_other _ _ _ _ (by intro e; exact hne8 (congrArg Addr.block e)), World.cell?_setCell_other _ _ _ _ (by intro e; exact hne8 (congrArg Addr.block e))]; exact hTb.2.2.1⟩)))
      all_goals
       go_wp2_with fail
       go_meet
       first
        | exact cutY_last (show Below w9.heap.size w9 w90 from bt (bd (Below.refl w9.heap.size w9) 1) hb90) h90 hp90
        | exact cutY_early (show Below w9.heap.size w9 w90 from bt (bd (Below.refl w9.heap.size w9) 1) hb90) h90 hp90 tz90 (Nat.le_trans (Nat.le_of_eq (World.size_alloc w9 (.cells #[.slice none 0 0, .slice none 0 0] 26)).symm) hu1) (Nat.le_trans (Nat.le_of_eq (World.size_alloc w9 (.cells #[.slice none 0 0, .slice none 0 0] 26)).symm) hu3)
     case rest =>
      obtain ⟨g10, A10, n10, c10, P10, m10, d10, T10, N10, C10, rfl, rfl, TA10, hb10, Z10, F10⟩ := hcut
      generalize wc = w10 at *
      have HB10 : Below w.heap.size w w10 := bt HB9 hb10
      have D10 : RdD w10 w10.heap.size A1 n1 c1 xs P1 m1 d1 yss := D9.up hb10
      have L10 : RdT w10 w10.heap.size E N C ts := L9.up hb10
      have TD10 : Two w10 w1.heap.size (.slice A1 n1 c1) (.slice P1 m1 d1) := TD9.up hb10
      have X10 : RdD w10 w10.heap.size A3 n3 c3 r1 P3 m3 d3 r2 := X9.up hb10
      have V10 : RdT w10 w10.heap.size T3 N3 C3 zs := V9.up hb10
      have TX10 : Two w10 w3.heap.size (.slice A3 n3 c3) (.slice P3 m3 d3) := TX9.up hb10
      have hz10 := hb10.size
      clear HB9 D9 L9 TD9 X9 V9 TX9
      clear KJ
      go_upto_region 12 with fail
      obtain ⟨g1, g2, k3, hfit2, hval2, _, KJ2⟩ := deskSay_any p1 p2 (ts.drop H) (fun k hk => by rw [List.length_drop] at hk; rw [gT_drop]; exact HLN.out (H + k) (by omega))
      rw [v2] at hval2
      simp only [Prod.mk.injEq] at hval2
      obtain ⟨rfl, rfl, rfl⟩ := hval2
      have hall := HV.out.trans v3
      simp only [Prod.mk.injEq] at hall
      obtain ⟨rfl, rfl, rfl⟩ := hall
      have hEd0 := L10.drop_any hHN
      clear L10
      go_cut [12, 13] (fun s12 s13 wx => CutY w10 wx s12 s13 r1 r2 k3)
      case first =>
       by_cases hCH : C = H
       · rw [if_pos hCH, show C - H = 0 by omega] at hEd0
         rw [show N - H = 0 by omega] at hEd0
         obtain rfl : H = C := hCH.symm
         have hTd : Two w10.drew g10 (.slice A10 n10 c10) (.slice P10 m10 d10) := TA10
         have hgz := hTd.1
         have hOd : RdD w10.drew w10.drew.heap.size A10 n10 c10 p1 P10 m10 d10 p2 := Z10
         have hEd : RdT w10.drew w10.drew.heap.size E 0 0 (ts.drop H) := hEd0
         have hGd : Glo w10.drew := hg.up (bd HB10 1)
         have hne8 : ¬ w10.heap.size = g10 := fun e => by have : g10 < w10.heap.size := hgz; omega
         have hHi : (H : Int) ≤ (N : Int) := by omega
         have hH0 : (0 : Int) ≤ (H : Int) := Int.natCast_nonneg _
         have hzd : w10.heap.size ≤ w10.drew.heap.size := Nat.le_refl _
         have Y0 := Lib.hid (show World.cell? w10.drew ⟨g10, 0, none⟩ = some (.slice A10 n10 c10) ∧ World.cell? w10.drew ⟨g10, 1, none⟩ = some (.slice P10 m10 d10) from ⟨hTd.2.1, hTd.2.2.1⟩)
         have KA0 : Hid (∀ o, World.cell? (w10.drew.alloc o) ⟨g10, 0, none⟩ = some (.slice A10 n10 c10) ∧ World.cell? (w10.drew.alloc o) ⟨g10, 1, none⟩ = some (.slice P10 m10 d10)) := Lib.hid (fun o => ⟨((below_new w10.drew o).cell (p := ⟨g10, 0, none⟩) hgz).trans Y0.out.1, ((below_new w10.drew o).cell (p := ⟨g10, 1, none⟩) hgz).trans Y0.out.2⟩)
         clear HB10 X10 V10 TX10 TA10 Z10 F10
         go_region_held3 (fun w' => World.cell? w' ⟨g10, 0, none⟩ = some (.slice A10 n10 c10) ∧ World.cell? w' ⟨g10, 1, none⟩ = some (.slice P10 m10 d10))
          (first
           | exact Y0.out
           | exact KA0.out _
           | exact Y5.out
           | exact KA5.out _
           | exact KF.out _ _)
          (first
           | (go_at_call 17; refine (KJ2 _ _ _ _ _ _ _ _ _ _ (by first | exact hOd | exact hOd.up (below_new _ _)) (by first | exact hEd | exact hEd.up (below_new _ _)) (by first | exact hGd | exact hGd.up (below_new _ _))).mono ?_; rintro e w90 ⟨A90, n90, c90, P90, m90, d90, T90, N90, C90, la90, ha90, lb90, hc90, rfl, h90, hp90, hu1, hu2, hu3, hu4, hu5, hu6, hx90⟩; have hb90 : Below w10.drew.heap.size w10.drew w90 := (by first | exact hx90 | exact below_of_alloc hx90); have hTb := hTd.up hb90; (try have tz90 : Two w90 w10.heap.size (.slice none 0 0) (.slice none 0 0) := (Two.made w10.drew _ _ _).up hx90); (try obtain ⟨_, z0, z1, z2, z3⟩ := id tz90); have hz90 := hb90.size; have Y5 := Lib.hid (show World.cell? w90 ⟨g10, 0, none⟩ = some (.slice A10 n10 c10) ∧ World.cell? w90 ⟨g10, 1, none⟩ = some (.slice P10 m10 d10) from ⟨hTb.2.1, hTb.2.2.1⟩); have KA5 : Hid (∀ o, World.cell? (w90.alloc o) ⟨g10, 0, none⟩ = some (.slice A10 n10 c10) ∧ World.cell? (w90.alloc o) ⟨g10, 1, none⟩ = some (.slice P10 m10 d10)) := Lib.hid (fun o => ⟨((below_new w90 o).cell (p := ⟨g10, 0, none⟩) hTb.1).trans hTb.2.1, ((below_new w90 o).cell (p := ⟨g10, 1, none⟩) hTb.1).trans hTb.2.2.1⟩); have KF : Hid (∀ y z, World.cell? ((w90.setCell ⟨w10.heap.size, 0, none⟩ y).setCell ⟨w10.heap.size, 1, none⟩ z) ⟨g10, 0, none⟩ = some (.slice A10 n10 c10) ∧ World.cell? ((w90.setCell ⟨w10.heap.size, 0, none⟩ y).setCell ⟨w10.heap.size, 1, none⟩ z) ⟨g10, 1, none⟩ = some (.slice P10 m10 d10)) := Lib.hid (fun y z => ⟨by rw [World.cell?_setCell_other _ _ _ _ (by intro e; exact hne8 (congrArg Addr.block e)), World.cell?_setCell_other _ _ _ _ (by intro e; exact hne8 (congrArg Addr.block e))]; exact hTb.2.1, by rw [World.cell?_setCell_other _ _ _ _ (by intro e; exact hne8 (congrArg Addr.block e)), World.cell?_setCell_other _ _ _ _ (by intro e; exact hne8 (congrArg Addr.block e))]; exact hTb.2.2.1⟩)))
         all_goals
          go_wp2_with fail
          go_meet
          first
           | exact cutY_last (show Below w10.heap.size w10 w90 from bt (bd (Below.refl w10.heap.size w10) 1) hb90) h90 hp90
           | exact cutY_early (show Below w10.heap.size w10 w90 from bt (bd (Below.refl w10.heap.size w10) 1) hb90) h90 hp90 tz90 (Nat.le_trans (Nat.le_of_eq (World.size_alloc w10 (.cells #[.slice none 0 0, .slice none 0 0] 26)).symm) hu1) (Nat.le_trans (Nat.le_of_eq (World.size_alloc w10 (.cells #[.slice none 0 0, .slice none 0 0] 26)).symm) hu3)
       · rw [if_neg hCH] at hEd0
         have hTd : Two w10.drew g10 (.slice A10 n10 c10) (.slice P10 m10 d10) := TA10
         have hgz := hTd.1
         have hOd : RdD w10.drew w10.drew.heap.size A10 n10 c10 p1 P10 m10 d10 p2 := Z10
         have hEd : RdT w10.drew w10.drew.heap.size (E.map (·.add H)) (N - H) (C - H) (ts.drop H) := hEd0
         have hGd : Glo w10.drew := hg.up (bd HB10 1)
         have hne8 : ¬ w10.heap.size = g10 := fun e => by have : g10 < w10.heap.size := hgz; omega
         have hHC : H ≤ C := by omega
         have hHi : (H : Int) ≤ (N : Int) := by omega
         have hH0 : (0 : Int) ≤ (H : Int) := Int.natCast_nonneg _
         have hzd : w10.heap.size ≤ w10.drew.heap.size := Nat.le_refl _
         have Y0 := Lib.hid (show World.cell? w10.drew ⟨g10, 0, none⟩ = some (.slice A10 n10 c10) ∧ World.cell? w10.drew ⟨g10, 1, none⟩ = some (.slice P10 m10 d10) from ⟨hTd.2.1, hTd.2.2.1⟩)
         have KA0 : Hid (∀ o, World.cell? (w10.drew.alloc o) ⟨g10, 0, none⟩ = some (.slice A10 n10 c10) ∧ World.cell? (w10.drew.alloc o) ⟨g10, 1, none⟩ = some (.slice P10 m10 d10)) := Lib.hid (fun o => ⟨((below_new w10.drew o).cell (p := ⟨g10, 0, none⟩) hgz).trans Y0.out.1, ((below_new w10.drew o).cell (p := ⟨g10, 1, none⟩) hgz).trans Y0.out.2⟩)
         clear HB10 X10 V10 TX10 TA10 Z10 F10
         go_region_held3 (fun w' => World.cell? w' ⟨g10, 0, none⟩ = some (.slice A10 n10 c10) ∧ World.cell? w' ⟨g10, 1, none⟩ = some (.slice P10 m10 d10))
          (first
           | exact Y0.out
           | exact KA0.out _
           | exact Y5.out
           | exact KA5.out _
           | exact KF.out _ _)
          (first
           | (go_at_call 17; refine (KJ2 _ _ _ _ _ _ _ _ _ _ (by first | exact hOd | exact hOd.up (below_new _ _)) (by first | exact hEd | exact hEd.up (below_new _ _)) (by first | exact hGd | exact hGd.up (below_new _ _))).mono ?_; rintro e w90 ⟨A90, n90, c90, P90, m90, d90, T90, N90, C90, la90, ha90, lb90, hc90, rfl, h90, hp90, hu1, hu2, hu3, hu4, hu5, hu6, hx90⟩; have hb90 : Below w10.drew.heap.size w10.drew w90 := (by first | exact hx90 | exact below_of_alloc hx90); have hTb := hTd.up hb90; (try have tz90 : Two w90 w10.heap.size (.slice none 0 0) (.slice none 0 0) := (Two.made w10.drew _ _ _).up hx90); (try obtain ⟨_, z0, z1, z2, z3⟩ := id tz90); have hz90 := hb90.size; have Y5 := Lib.hid (show World.cell? w90 ⟨g10, 0, none⟩ = some (.slice A10 n10 c10) ∧ World.cell? w90 ⟨g10, 1, none⟩ = some (.slice P10 m10 d10) from ⟨hTb.2.1, hTb.2.2.1⟩); have KA5 : Hid (∀ o, World.cell? (w90.alloc o) ⟨g10, 0, none⟩ = some (.slice A10 n10 c10) ∧ World.cell? (w90.alloc o) ⟨g10, 1, none⟩ = some (.slice P10 m10 d10)) := Lib.hid (fun o => ⟨((below_new w90 o).cell (p := ⟨g10, 0, none⟩) hTb.1).trans hTb.2.1, ((below_new w90 o).cell (p := ⟨g10, 1, none⟩) hTb.1).trans hTb.2.2.1⟩); have KF : Hid (∀ y z, World.cell? ((w90.setCell ⟨w10.heap.size, 0, none⟩ y).setCell ⟨w10.heap.size, 1, none⟩ z) ⟨g10, 0, none⟩ = some (.slice A10 n10 c10) ∧ World.cell? ((w90.setCell ⟨w10.heap.size, 0, none⟩ y).setCell ⟨w10.heap.size, 1, none⟩ z) ⟨g10, 1, none⟩ = some (.slice P10 m10 d10)) := Lib.hid (fun y z => ⟨by rw [World.cell?_setCell_other _ _ _ _ (by intro e; exact hne8 (congrArg Addr.block e)), World.cell?_setCell_other _ _ _ _ (by intro e; exact hne8 (congrArg Addr.block e))]; exact hTb.2.1, by rw [World.cell?_setCell_other _ _ _ _ (by intro e; exact hne8 (congrArg Addr.block e)), World.cell?_setCell_other _ _ _ _ (by intro e; exact hne8 (congrArg Addr.block e))]; exact hTb.2.2.1⟩)))
         all_goals
          go_wp2_with fail
          go_meet
          first
           | exact cutY_last (show Below w10.heap.size w10 w90 from bt (bd (Below.refl w10.heap.size w10) 1) hb90) h90 hp90
           | exact cutY_early (show Below w10.heap.size w10 w90 from bt (bd (Below.refl w10.heap.size w10) 1) hb90) h90 hp90 tz90 (Nat.le_trans (Nat.le_of_eq (World.size_alloc w10 (.cells #[.slice none 0 0, .slice none 0 0] 26)).symm) hu1) (Nat.le_trans (Nat.le_of_eq (World.size_alloc w10 (.cells #[.slice none 0 0, .slice none 0 0] 26)).symm) hu3)
      case rest =>
       obtain ⟨g12, A12, n12, c12, P12, m12, d12, T12, N12, C12, rfl, rfl, TC12, hb12, G12, S12⟩ := hcut
       generalize wc = w12 at *
       have HB12 : Below w.heap.size w w12 := bt HB10 hb12
       have X12 : RdD w12 w12.heap.size A3 n3 c3 r1 P3 m3 d3 r2 := X10.up hb12
       have V12 : RdT w12 w12.heap.size T3 N3 C3 (q1 ++ k3) := V10.up hb12
       have TX12 : Two w12 w3.heap.size (.slice A3 n3 c3) (.slice P3 m3 d3) := TX10.up hb12
       have TA12 : Two w12 g10 (.slice A10 n10 c10) (.slice P10 m10 d10) := TA10.up hb12
       have Z12 : RdD w12 w12.heap.size A10 n10 c10 p1 P10 m10 d10 p2 := Z10.up hb12
       have F12 : RdT w12 w12.heap.size T10 N10 C10 q1 := F10.up hb12
       have hz12 := hb12.size
       clear HB10 X10 V10 TX10 TA10 Z10 F10
       clear KJ2 hEd0
       have hNN : N3 = N := by omega
       subst hNN
       have hlF := F12.len
       have hlS := S12.len
       have hl2 := hlen2
       rw [List.length_append] at hl2
       have HNE := Lib.hid hne2
       clear hne2
       obtain ⟨ff, hI, he, hok3⟩ := lnX_settled hok2
       have KP := fun W (h : RdD W W.heap.size A3 n3 c3 r1 P3 m3 d3 r2) (hg : Glo W) => line_c A3 P3 n3 c3 m3 d3 r1 r2 ⟨#[112, 111, 119, 101, 114, 32, 50, 55, 55, 50, 48]⟩ W h hg (by decide)
       rw [show (⟨#[112, 111, 119, 101, 114, 32, 50, 55, 55, 50, 48]⟩ : ByteArray).data.toList = lnPower from rfl] at KP
       generalize lnX r1 r2 lnPower = R at *
       obtain ⟨q5, q6, tz⟩ := R
       simp only at he hok3 KP
       subst he
       have KE : ∀ A n c P m d W, RdD W W.heap.size A n c (ints ff) P m d q6 → Glo W → Calls Tryz.prog 9 #[.agg #[.slice A n c, .slice P m d], .string ⟨#[112, 101, 114, 105, 111, 100]⟩] W (LineO W (ints ff) q6 ⟨#[49]⟩) := fun A n c P m d W h hg => by
        have K := line_c A P n c m d (ints ff) q6 ⟨#[112, 101, 114, 105, 111, 100]⟩ W h hg (by decide)
        rw [show (⟨#[112, 101, 114, 105, 111, 100]⟩ : ByteArray).data.toList = qW 2 from rfl, lnX_period hI hok3] at K
        exact K
       have KX : ∀ A n c P m d W, RdD W W.heap.size A n c (ints ff) P m d q6 → Glo W → Calls Tryz.prog 9 #[.agg #[.slice A n c, .slice P m d], .string ⟨#[105, 110, 100, 101, 120]⟩] W (LineO W (ints ff) q6 ⟨#[49]⟩) := fun A n c P m d W h hg => by
        have K := line_c A P n c m d (ints ff) q6 ⟨#[105, 110, 100, 101, 120]⟩ W h hg (by decide)
        rw [show (⟨#[105, 110, 100, 101, 120]⟩ : ByteArray).data.toList = qW 1 from rfl, lnX_index hI hok3] at K
        exact K
       clear hI hok3 v1 v2 v3
       go_wp2_with fail
       go_loopw [14] (fun i wr => ∃ k : Nat, k ≤ N3 ∧ i = .int .i64 k ∧ Below w12.heap.size w12 wr) (fun i _ => N3 - (intOf i).toNat)
       case atStart => exact ⟨0, Nat.zero_le _, rfl, Below.refl _ _⟩
       case round =>
        obtain ⟨k, hk, rfl, hbw⟩ := hrel
        by_cases hlt : k < N3
        · obtain ⟨b, off, rfl, hb, c0⟩ := (V12.up hbw).at_ hlt
          have hkz : k < (q1 ++ k3).length := by omega
          have hnk : gT (q1 ++ k3) k ≠ (⟨#[]⟩ : ByteArray) := HNE.out _ (by rw [gT_get hkz]; exact List.getElem_mem hkz)
          generalize gT (q1 ++ k3) k = T at c0 hnk
          have hT0 : T.toList ≠ [] := fun e => hnk (by rw [← bl_of T, ← ByteArray.toList_eq, e]; rfl)
          have qT : (T.toList == []) = false := beqF hT0
          have qU : ¬ T.toList = [] := hT0
          have qS : T.toList.isEmpty = false := by
           rcases h9 : T.toList with _ | _
           · exact absurd h9 qU
           · rfl
          have HBW := Lib.hid hbw
          clear hbw hnk hT0
          go_wp2_with fail
          go_roundw
          case rel => exact ⟨k + 1, by omega, by go_num, HBW.out⟩
          case measure => simp [intOf]; omega
        · have hkN : ¬ (k : Int) < (N3 : Int) := by omega
          have HB13 : Below w.heap.size w wr := bt HB12 hbw
          have X13 : RdD wr wr.heap.size A3 n3 c3 r1 P3 m3 d3 r2 := X12.up hbw
          have V13 : RdT wr wr.heap.size T3 N3 C3 (q1 ++ k3) := V12.up hbw
          have TX13 : Two wr w3.heap.size (.slice A3 n3 c3) (.slice P3 m3 d3) := TX12.up hbw
          have F13 : RdT wr wr.heap.size T10 N10 C10 q1 := F12.up hbw
          have TC13 : Two wr g12 (.slice A12 n12 c12) (.slice P12 m12 d12) := TC12.up hbw
          have Gd13 : RdD wr wr.heap.size A12 n12 c12 r1 P12 m12 d12 r2 := G12.up hbw
          have S13 : RdT wr wr.heap.size T12 N12 C12 k3 := S12.up hbw
          have hz13 := hbw.size
          clear HB12 X12 V12 TX12 F12 TC12 G12 S12
          generalize wr = w13 at *
          obtain ⟨_, qTX0, qTX1, _, _⟩ := id TX13
          go_wp2_with fail
          clear qTX0 qTX1
          refine (KP _ X13 (hg.up HB13)).mono ?_
          rintro e w14 ⟨A14, n14, c14, P14, m14, d14, rfl, hO14, hb14⟩
          have Q14 := hO14.rd
          clear hO14 KP
          have HB14 : Below w.heap.size w w14 := bt HB13 hb14
          have X14 : RdD w14 w14.heap.size A3 n3 c3 r1 P3 m3 d3 r2 := X13.up hb14
          have V14 : RdT w14 w14.heap.size T3 N3 C3 (q1 ++ k3) := V13.up hb14
          have TX14 : Two w14 w3.heap.size (.slice A3 n3 c3) (.slice P3 m3 d3) := TX13.up hb14
          have F14 : RdT w14 w14.heap.size T10 N10 C10 q1 := F13.up hb14
          have TC14 : Two w14 g12 (.slice A12 n12 c12) (.slice P12 m12 d12) := TC13.up hb14
          have Gd14 : RdD w14 w14.heap.size A12 n12 c12 r1 P12 m12 d12 r2 := Gd13.up hb14
          have S14 : RdT w14 w14.heap.size T12 N12 C12 k3 := S13.up hb14
          have hz14 := hb14.size
          clear HB13 X13 V13 TX13 F13 TC13 Gd13 S13
          have TQ15 := Two.made w14 26 (.slice A14 n14 c14) (.slice P14 m14 d14)
          have hb15 : Below w14.heap.size w14 (w14.alloc (.cells #[.slice A14 n14 c14, .slice P14 m14 d14] 26)) := below_new _ _
          have HB15 : Below w.heap.size w (w14.alloc (.cells #[.slice A14 n14 c14, .slice P14 m14 d14] 26)) := bt HB14 hb15
          have X15 : RdD (w14.alloc (.cells #[.slice A14 n14 c14, .slice P14 m14 d14] 26)) (w14.alloc (.cells #[.slice A14 n14 c14, .slice P14 m14 d14] 26)).heap.size A3 n3 c3 r1 P3 m3 d3 r2 := X14.up hb15
          have V15 : RdT (w14.alloc (.cells #[.slice A14 n14 c14, .slice P14 m14 d14] 26)) (w14.alloc (.cells #[.slice A14 n14 c14, .slice P14 m14 d14] 26)).heap.size T3 N3 C3 (q1 ++ k3) := V14.up hb15
          have TX15 : Two (w14.alloc (.cells #[.slice A14 n14 c14, .slice P14 m14 d14] 26)) w3.heap.size (.slice A3 n3 c3) (.slice P3 m3 d3) := TX14.up hb15
          have F15 : RdT (w14.alloc (.cells #[.slice A14 n14 c14, .slice P14 m14 d14] 26)) (w14.alloc (.cells #[.slice A14 n14 c14, .slice P14 m14 d14] 26)).heap.size T10 N10 C10 q1 := F14.up hb15
          have TC15 : Two (w14.alloc (.cells #[.slice A14 n14 c14, .slice P14 m14 d14] 26)) g12 (.slice A12 n12 c12) (.slice P12 m12 d12) := TC14.up hb15
          have Gd15 : RdD (w14.alloc (.cells #[.slice A14 n14 c14, .slice P14 m14 d14] 26)) (w14.alloc (.cells #[.slice A14 n14 c14, .slice P14 m14 d14] 26)).heap.size A12 n12 c12 r1 P12 m12 d12 r2 := Gd14.up hb15
          have S15 : RdT (w14.alloc (.cells #[.slice A14 n14 c14, .slice P14 m14 d14] 26)) (w14.alloc (.cells #[.slice A14 n14 c14, .slice P14 m14 d14] 26)).heap.size T12 N12 C12 k3 := S14.up hb15
          have Q15 : RdD (w14.alloc (.cells #[.slice A14 n14 c14, .slice P14 m14 d14] 26)) (w14.alloc (.cells #[.slice A14 n14 c14, .slice P14 m14 d14] 26)).heap.size A14 n14 c14 (ints ff) P14 m14 d14 q6 := Q14.up hb15
          have hz15 := hb15.size
          clear HB14 X14 V14 TX14 F14 TC14 Gd14 S14 Q14
          obtain ⟨_, qTQ0, qTQ1, _, _⟩ := id TQ15
          go_wp2_with fail
          clear qTQ0 qTQ1
          generalize (w14.alloc (.cells #[.slice A14 n14 c14, .slice P14 m14 d14] 26)) = w15 at *
          refine (KE _ _ _ _ _ _ _ Q15 (hg.up HB15)).mono ?_
          rintro e w16 ⟨A16, n16, c16, P16, m16, d16, rfl, -, hb16⟩
          clear KE
          have HB16 : Below w.heap.size w w16 := bt HB15 hb16
          have X16 : RdD w16 w16.heap.size A3 n3 c3 r1 P3 m3 d3 r2 := X15.up hb16
          have V16 : RdT w16 w16.heap.size T3 N3 C3 (q1 ++ k3) := V15.up hb16
          have TX16 : Two w16 w3.heap.size (.slice A3 n3 c3) (.slice P3 m3 d3) := TX15.up hb16
          have F16 : RdT w16 w16.heap.size T10 N10 C10 q1 := F15.up hb16
          have TC16 : Two w16 g12 (.slice A12 n12 c12) (.slice P12 m12 d12) := TC15.up hb16
          have Gd16 : RdD w16 w16.heap.size A12 n12 c12 r1 P12 m12 d12 r2 := Gd15.up hb16
          have S16 : RdT w16 w16.heap.size T12 N12 C12 k3 := S15.up hb16
          have Q16 : RdD w16 w16.heap.size A14 n14 c14 (ints ff) P14 m14 d14 q6 := Q15.up hb16
          have TQ16 : Two w16 w14.heap.size (.slice A14 n14 c14) (.slice P14 m14 d14) := TQ15.up hb16
          have hz16 := hb16.size
          clear HB15 X15 V15 TX15 F15 TC15 Gd15 S15 Q15 TQ15
          have hb17 : Below w16.heap.size w16 (w16.alloc (.cells #[.slice A16 n16 c16, .slice P16 m16 d16] 26)) := below_new _ _
          have HB17 : Below w.heap.size w (w16.alloc (.cells #[.slice A16 n16 c16, .slice P16 m16 d16] 26)) := bt HB16 hb17
          have X17 : RdD (w16.alloc (.cells #[.slice A16 n16 c16, .slice P16 m16 d16] 26)) (w16.alloc (.cells #[.slice A16 n16 c16, .slice P16 m16 d16] 26)).heap.size A3 n3 c3 r1 P3 m3 d3 r2 := X16.up hb17
          have V17 : RdT (w16.alloc (.cells #[.slice A16 n16 c16, .slice P16 m16 d16] 26)) (w16.alloc (.cells #[.slice A16 n16 c16, .slice P16 m16 d16] 26)).heap.size T3 N3 C3 (q1 ++ k3) := V16.up hb17
          have TX17 : Two (w16.alloc (.cells #[.slice A16 n16 c16, .slice P16 m16 d16] 26)) w3.heap.size (.slice A3 n3 c3) (.slice P3 m3 d3) := TX16.up hb17
          have F17 : RdT (w16.alloc (.cells #[.slice A16 n16 c16, .slice P16 m16 d16] 26)) (w16.alloc (.cells #[.slice A16 n16 c16, .slice P16 m16 d16] 26)).heap.size T10 N10 C10 q1 := F16.up hb17
          have TC17 : Two (w16.alloc (.cells #[.slice A16 n16 c16, .slice P16 m16 d16] 26)) g12 (.slice A12 n12 c12) (.slice P12 m12 d12) := TC16.up hb17
          have Gd17 : RdD (w16.alloc (.cells #[.slice A16 n16 c16, .slice P16 m16 d16] 26)) (w16.alloc (.cells #[.slice A16 n16 c16, .slice P16 m16 d16] 26)).heap.size A12 n12 c12 r1 P12 m12 d12 r2 := Gd16.up hb17
          have S17 : RdT (w16.alloc (.cells #[.slice A16 n16 c16, .slice P16 m16 d16] 26)) (w16.alloc (.cells #[.slice A16 n16 c16, .slice P16 m16 d16] 26)).heap.size T12 N12 C12 k3 := S16.up hb17
          have Q17 : RdD (w16.alloc (.cells #[.slice A16 n16 c16, .slice P16 m16 d16] 26)) (w16.alloc (.cells #[.slice A16 n16 c16, .slice P16 m16 d16] 26)).heap.size A14 n14 c14 (ints ff) P14 m14 d14 q6 := Q16.up hb17
          have TQ17 : Two (w16.alloc (.cells #[.slice A16 n16 c16, .slice P16 m16 d16] 26)) w14.heap.size (.slice A14 n14 c14) (.slice P14 m14 d14) := TQ16.up hb17
          have hz17 := hb17.size
          clear HB16 X16 V16 TX16 F16 TC16 Gd16 S16 Q16 TQ16
          obtain ⟨_, qTQ0, qTQ1, _, _⟩ := id TQ17
          go_wp2_with fail
          clear qTQ0 qTQ1
          generalize (w16.alloc (.cells #[.slice A16 n16 c16, .slice P16 m16 d16] 26)) = w17 at *
          refine (KX _ _ _ _ _ _ _ Q17 (hg.up HB17)).mono ?_
          rintro e w18 ⟨A18, n18, c18, P18, m18, d18, rfl, -, hb18⟩
          clear KX
          have HB18 : Below w.heap.size w w18 := bt HB17 hb18
          have X18 : RdD w18 w18.heap.size A3 n3 c3 r1 P3 m3 d3 r2 := X17.up hb18
          have V18 : RdT w18 w18.heap.size T3 N3 C3 (q1 ++ k3) := V17.up hb18
          have TX18 : Two w18 w3.heap.size (.slice A3 n3 c3) (.slice P3 m3 d3) := TX17.up hb18
          have F18 : RdT w18 w18.heap.size T10 N10 C10 q1 := F17.up hb18
          have TC18 : Two w18 g12 (.slice A12 n12 c12) (.slice P12 m12 d12) := TC17.up hb18
          have Gd18 : RdD w18 w18.heap.size A12 n12 c12 r1 P12 m12 d12 r2 := Gd17.up hb18
          have S18 : RdT w18 w18.heap.size T12 N12 C12 k3 := S17.up hb18
          have Q18 : RdD w18 w18.heap.size A14 n14 c14 (ints ff) P14 m14 d14 q6 := Q17.up hb18
          have TQ18 : Two w18 w14.heap.size (.slice A14 n14 c14) (.slice P14 m14 d14) := TQ17.up hb18
          have hz18 := hb18.size
          clear HB17 X17 V17 TX17 F17 TC17 Gd17 S17 Q17 TQ17
          have hb19 : Below w18.heap.size w18 (w18.alloc (.cells #[.slice A18 n18 c18, .slice P18 m18 d18] 26)) := below_new _ _
          have HB19 : Below w.heap.size w (w18.alloc (.cells #[.slice A18 n18 c18, .slice P18 m18 d18] 26)) := bt HB18 hb19
          have X19 : RdD (w18.alloc (.cells #[.slice A18 n18 c18, .slice P18 m18 d18] 26)) (w18.alloc (.cells #[.slice A18 n18 c18, .slice P18 m18 d18] 26)).heap.size A3 n3 c3 r1 P3 m3 d3 r2 := X18.up hb19
          have V19 : RdT (w18.alloc (.cells #[.slice A18 n18 c18, .slice P18 m18 d18] 26)) (w18.alloc (.cells #[.slice A18 n18 c18, .slice P18 m18 d18] 26)).heap.size T3 N3 C3 (q1 ++ k3) := V18.up hb19
          have TX19 : Two (w18.alloc (.cells #[.slice A18 n18 c18, .slice P18 m18 d18] 26)) w3.heap.size (.slice A3 n3 c3) (.slice P3 m3 d3) := TX18.up hb19
          have F19 : RdT (w18.alloc (.cells #[.slice A18 n18 c18, .slice P18 m18 d18] 26)) (w18.alloc (.cells #[.slice A18 n18 c18, .slice P18 m18 d18] 26)).heap.size T10 N10 C10 q1 := F18.up hb19
          have TC19 : Two (w18.alloc (.cells #[.slice A18 n18 c18, .slice P18 m18 d18] 26)) g12 (.slice A12 n12 c12) (.slice P12 m12 d12) := TC18.up hb19
          have Gd19 : RdD (w18.alloc (.cells #[.slice A18 n18 c18, .slice P18 m18 d18] 26)) (w18.alloc (.cells #[.slice A18 n18 c18, .slice P18 m18 d18] 26)).heap.size A12 n12 c12 r1 P12 m12 d12 r2 := Gd18.up hb19
          have S19 : RdT (w18.alloc (.cells #[.slice A18 n18 c18, .slice P18 m18 d18] 26)) (w18.alloc (.cells #[.slice A18 n18 c18, .slice P18 m18 d18] 26)).heap.size T12 N12 C12 k3 := S18.up hb19
          have Q19 : RdD (w18.alloc (.cells #[.slice A18 n18 c18, .slice P18 m18 d18] 26)) (w18.alloc (.cells #[.slice A18 n18 c18, .slice P18 m18 d18] 26)).heap.size A14 n14 c14 (ints ff) P14 m14 d14 q6 := Q18.up hb19
          have TQ19 : Two (w18.alloc (.cells #[.slice A18 n18 c18, .slice P18 m18 d18] 26)) w14.heap.size (.slice A14 n14 c14) (.slice P14 m14 d14) := TQ18.up hb19
          have hz19 := hb19.size
          clear HB18 X18 V18 TX18 F18 TC18 Gd18 S18 Q18 TQ18
          obtain ⟨_, qTC0, qTC1, _, _⟩ := id TC19
          obtain ⟨_, qTX0, qTX1, _, _⟩ := id TX19
          go_wp2_with fail
          clear qTC0 qTC1 qTX0 qTX1
          generalize (w18.alloc (.cells #[.slice A18 n18 c18, .slice P18 m18 d18] 26)) = w19 at *
          refine (sameDesk_c A12 P12 A3 P3 n12 c12 m12 d12 n3 c3 m3 d3 _ _ _ _ _ Gd19 X19).mono ?_
          rintro e w20 ⟨rfl, hb20⟩
          rw [HQ.out]
          have HB20 : Below w.heap.size w w20 := bt HB19 hb20
          have X20 : RdD w20 w20.heap.size A3 n3 c3 r1 P3 m3 d3 r2 := X19.up hb20
          have V20 : RdT w20 w20.heap.size T3 N3 C3 (q1 ++ k3) := V19.up hb20
          have TX20 : Two w20 w3.heap.size (.slice A3 n3 c3) (.slice P3 m3 d3) := TX19.up hb20
          have F20 : RdT w20 w20.heap.size T10 N10 C10 q1 := F19.up hb20
          have TC20 : Two w20 g12 (.slice A12 n12 c12) (.slice P12 m12 d12) := TC19.up hb20
          have Gd20 : RdD w20 w20.heap.size A12 n12 c12 r1 P12 m12 d12 r2 := Gd19.up hb20
          have S20 : RdT w20 w20.heap.size T12 N12 C12 k3 := S19.up hb20
          have Q20 : RdD w20 w20.heap.size A14 n14 c14 (ints ff) P14 m14 d14 q6 := Q19.up hb20
          have TQ20 : Two w20 w14.heap.size (.slice A14 n14 c14) (.slice P14 m14 d14) := TQ19.up hb20
          have hz20 := hb20.size
          clear HB19 X19 V19 TX19 F19 TC19 Gd19 S19 Q19 TQ19
          have hbL := below_new w20 (.cells #[] 9)
          have hO21 := OwnS.made w20 w20.heap.size #[] (Nat.le_refl _) rfl
          have F21 := F20.up hbL
          have hzL : w20.heap.size ≤ (w20.alloc (.cells #[] 9)).heap.size := hbL.size
          go_wp2_with (at_builtin; first
           | (refine wpList_strip (by rfl) ?_; refine appT w22 _ _ rfl rfl w20.heap.size v22 q1 rfl hO22 T12 N12 C12 k3 rfl S22 (by omega) (by omega) hz22 ?_; intro v23 w23 hO23 hb23; have hB23 := hb22.trans hb23)
           | (refine wpList_strip (by rfl) ?_; refine appT (w20.alloc (.cells #[] 9)) _ _ rfl rfl w20.heap.size _ [] rfl hO21 T10 N10 C10 q1 rfl F21 (by omega) (Nat.zero_le _) hzL ?_; intro v22 w22 hO22' hb22'; have hO22 : OwnS w22 w20.heap.size v22 q1 := hO22'; have hb22 := hbL.trans hb22'; have hz22 := hb22.size; have S22 : RdT w22 w22.heap.size T12 N12 C12 k3 := S20.up hb22))
          obtain ⟨T23, C23, rfl, R23⟩ := hO23.slice_
          have V23 := V20.up hB23
          have B23 := bt HB20 hB23
          refine (sameTexts_c _ _ _ _ _ _ _ _ _ R23 V23).mono ?_
          rintro e w24 ⟨rfl, hb24⟩
          rw [HQZ.out]
          have HBE := bt B23 hb24
          go_wp2_with fail
          go_ret
          exact ⟨rfl, HBE⟩
end
end Go.Proofs.YtoinlkdmfclnbaaGreatDoor
