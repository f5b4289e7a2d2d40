/- Walk: ReadDeed of the reference. Printed by gen_w117.py. -/
import Derived.Test.YtoinlkdmfclnbaaGreatDoorV18
import Derived.Test.YtoinlkdmfclnbaaGreatDoorV16
import Derived.Deep.RegionHeld3
namespace Go.Proofs.YtoinlkdmfclnbaaGreatDoor
set_option linter.unusedVariables false
open Go.RowKit

def toDd (d : Dl) : Dd := (d.1, d.2.1, d.2.2.1, bl d.2.2.2)
theorem dtX_dd (d : Dl) : dtX d.1 d.2.1 d.2.2.1 (bl d.2.2.2) = bl (dtD d) := by unfold dtX dtD; rw [bl_list]
theorem dG_dd {cs : List Dl} {k : Nat} (h : k < cs.length) : dG (cs.map toDd) k = toDd cs[k] := by
  rw [dG_get (by rw [List.length_map]; exact h)]
  simp
theorem spl_le (c : UInt8) : ∀ (n : Nat) (l : List UInt8), l.length ≤ n → ∀ u ∈ spl c l, u.length ≤ l.length
  | 0, l, h => by
    obtain rfl := List.length_eq_zero_iff.1 (Nat.le_zero.1 h)
    intro u hu
    have : u = [] := by simpa [spl] using hu
    rw [this]
    exact Nat.le_refl _
  | n + 1, l, h => by
    intro u hu
    rcases spl_any c l with ⟨_, e, _⟩ | ⟨a, b, _, rfl, e, _⟩
    · rw [e, List.mem_singleton] at hu
      rw [hu]
      exact Nat.le_refl _
    · rw [e, List.mem_cons] at hu
      rw [spl_len] at h ⊢
      rcases hu with rfl | hu
      · omega
      · have := spl_le c n b (by omega) u hu
        omega
theorem spl_at (c : UInt8) (l : List UInt8) (k : Nat) : ((spl c l).getD k []).length ≤ l.length := by
  by_cases h : k < (spl c l).length
  · rw [show (spl c l).getD k [] = (spl c l)[k] by simp [List.getD, List.getElem?_eq_getElem h]]
    exact spl_le c l.length l (Nat.le_refl _) _ (List.getElem_mem h)
  · rw [show (spl c l).getD k [] = [] by simp [List.getD, List.getElem?_eq_none (Nat.le_of_not_lt h)]]
    exact Nat.zero_le _
theorem gT_bl (us : List (List UInt8)) (k : Nat) : gT (us.map bl) k = bl (us.getD k []) := by
  unfold gT
  by_cases h : k < us.length
  · simp [List.getD, List.getElem?_eq_getElem h]
  · simp [List.getD, List.getElem?_eq_none (Nat.le_of_not_lt h), bl]
theorem wp_app_ds {o : Oper} {a : Act} {K : Act → World → Prop} {Q : Exit → Act → World → Prop} (w : World) (s x : Operand)
    (ho : o.op = .call { callee := .builtin .append, args := #[s, x], argTypes := #[47, 47] })
    (B : Nat) (v : Value) (ds es : List Dd) (hs : a.eval s = v) (hown : OwnW w B v ds) (A : Option Addr) (n c : Nat) (hx : a.eval x = .slice A n c) (hr : RdE w w.heap.size A n c es) (h0 : 0 < n)
    (hlen : ds.length ≤ 1000000) (hn : n ≤ 1000000) (hB : B ≤ w.heap.size)
    (h : ∀ v' w', OwnW w' B v' (ds ++ es) → Below B w w' → K (a.put o.dst v') w') : o.wp Tryz.prog a w K Q := by
  obtain ⟨i0, hi, hz0, hz1, hz2⟩ := info_parts deed_info
  obtain ⟨b, off, rfl, hb, hcell⟩ := hr.2.2.2 h0
  have hl := hr.len
  refine wp_append_own (P := Tryz.prog) w s x 47 ho B 55 i0 _ 4 40 Tryz.underlying47 hi hz0 hz1 hz2 rfl (by decide) v ds.length (flatD ds) hs hown ⟨b, off, none⟩ n c (flatD es) hx (by rw [flatD_len, hl]) (fun j u hj => ?_) (fun u hu => ?_) (by unfold maxLen; omega) (by omega) hB ?_
  · have hjl : j < n * 4 := by
      have := (List.getElem?_eq_some_iff.1 hj).1
      rw [flatD_len, hl] at this
      exact this
    obtain ⟨c0, c1, c2, c3⟩ := hcell (j / 4) (by omega)
    obtain ⟨f0, f1, f2, f3⟩ := flatD_at es (j / 4) (by rw [hl]; omega)
    rw [Addr.add_lit]
    have hm : j % 4 = 0 ∨ j % 4 = 1 ∨ j % 4 = 2 ∨ j % 4 = 3 := by omega
    rcases hm with hm | hm | hm | hm
    · rw [show j = j / 4 * 4 by omega, f0] at hj
      cases hj
      rw [show off + j = off + j / 4 * 4 by omega]; exact c0
    · rw [show j = j / 4 * 4 + 1 by omega, f1] at hj
      cases hj
      rw [show off + j = off + j / 4 * 4 + 1 by omega]; exact c1
    · rw [show j = j / 4 * 4 + 2 by omega, f2] at hj
      cases hj
      rw [show off + j = off + j / 4 * 4 + 2 by omega]; exact c2
    · rw [show j = j / 4 * 4 + 3 by omega, f3] at hj
      cases hj
      rw [show off + j = off + j / 4 * 4 + 3 by omega]; exact c3
  · unfold flatD at hu
    rw [List.mem_flatMap] at hu
    obtain ⟨d, _, hd⟩ := hu
    simp only [List.mem_cons, List.not_mem_nil, or_false] at hd
    rcases hd with rfl | rfl | rfl | rfl <;> rfl
  intro v' w' hown' hg _
  refine h v' w' ?_ ?_
  · unfold OwnW
    rw [List.length_append, flatD_app, hl]
    exact hown'
  · exact (Below.refl B w).grown hg hB (fun k hk => (World.ownsRow.lt hown k hk).1)
theorem step_app_ds {ops : Array Oper} {o : Oper} {a : Act} {K : Act → World → Prop} {Q : Exit → Act → World → Prop} {E : Prop} (w : World) (hgd : o.guard = none) (s x : Operand)
    (ho : o.op = .call { callee := .builtin .append, args := #[s, x], argTypes := #[47, 47] })
    (B : Nat) (v : Value) (ds es : List Dd) (hs : a.eval s = v) (hown : OwnW w B v ds) (A : Option Addr) (n c : Nat) (hx : a.eval x = .slice A n c) (hr : RdE w w.heap.size A n c es) (h0 : 0 < n)
    (hlen : ds.length ≤ 1000000) (hn : n ≤ 1000000) (hB : B ≤ w.heap.size)
    (h : ∀ v' w', OwnW w' B v' (ds ++ es) → Below B w w' → K (a.put o.dst v') w') :
    if Region.wanted o (yielded ops a.tmps) = true then Oper.wp Tryz.prog o a w K Q else E := by
  have hw : Region.wanted o (yielded ops a.tmps) = true := by simp [Region.wanted, hgd]
  rw [if_pos hw]
  exact wp_app_ds w s x ho B v ds es hs hown A n c hx hr h0 hlen hn hB h
/-- a new block that holds these deeds, filled -/
theorem OwnW.new (w : World) (B : Nat) (hB : B ≤ w.heap.size) (ds : List Dd) (cur : Array Value) (hc : cur.toList = flatD ds) (hm : ds.length ≤ 1000000) : OwnW (w.alloc (.cells cur 55)) B (.slice (some ⟨w.heap.size, 0, none⟩) ds.length ds.length) ds := by
  have hsz : cur.size = ds.length * 4 := by rw [← Array.length_toList, hc, flatD_len]
  refine ⟨flatD_len ds, .inr ⟨w.heap.size, ds.length, cur, rfl, hB, heap_alloc_new w _, Nat.le_refl _, by unfold maxLen; omega, hsz, ?_⟩⟩
  rw [hc]
  exact List.take_of_length_le (by rw [flatD_len]; exact Nat.le_refl _)
theorem OwnW.rd {w : World} {B : Nat} {A : Option Addr} {n c : Nat} {ds : List Dd} (h : OwnW w B (.slice A n c) ds) : RdE w w.heap.size A n c ds := by
  obtain ⟨A', c', e, hE⟩ := h.slice_
  cases e
  exact hE.rd
theorem OwnW.up {w w' : World} {B : Nat} {v : Value} {ds : List Dd} (h : OwnW w B v ds) (hb : Below w.heap.size w w') : OwnW w' B v ds := by
  refine ⟨h.1, ?_⟩
  rcases h.2 with h0 | ⟨g, cap, cur, e, hg, hh, r⟩
  · exact .inl h0
  · exact .inr ⟨g, cap, cur, e, hg, by rw [hb.block g (Array.getElem?_eq_some_iff.1 hh).1]; exact hh, r⟩
theorem OwnW.dn {w : World} {B : Nat} {v : Value} {ds : List Dd} (h : OwnW w B v ds) (m : Nat) : OwnW (w.drewN m) B v ds := h
theorem cellUp {w w' : World} {p : Addr} {v : Value} (hb : Below w.heap.size w w') (e : w.cell? p = some v) : w'.cell? p = some v := (hb.cell (World.block_lt_of_cell? w p e)).trans e
theorem chg_of_low {B : Nat} {w w' : World} (h : Below B w w') : Chg B w.heap.size w w' := ⟨h.os, h.tape, h.output, h.size, fun k hk ho => h.block k (by omega)⟩
theorem cands_le {l : List UInt8} {d : Dl} (h : d ∈ cands l) : d.2.2.2.length ≤ l.length := by
  have h1 := spl_at 32 l 1
  unfold cands at h
  simp only [List.mem_cons, List.mem_append] at h
  rcases h with rfl | h | h
  · exact Nat.zero_le _
  · split at h
    · simp only [List.mem_cons, List.not_mem_nil, or_false] at h
      rcases h with rfl | rfl | rfl
      · exact h1
      · exact h1
      · exact Nat.zero_le _
    · cases h
  · split at h
    · simp only [List.mem_cons, List.not_mem_nil, or_false] at h
      rw [h]
      exact Nat.zero_le _
    · cases h
theorem cands_two {l : List UInt8} (h : (spl 32 l).length = 2) : cands l = [(4, 0, 0, [])] ++ [(1, 0, 0, (spl 32 l).getD 1 []), (3, 0, 0, (spl 32 l).getD 1 []), (2, digs ((spl 32 l).getD 1 []), 0, [])] := by
  unfold cands; rw [if_pos h, if_neg (by omega)]; rfl
theorem cands_three {l : List UInt8} (h : (spl 32 l).length = 3) : cands l = [(4, 0, 0, [])] ++ [(0, digs ((spl 32 l).getD 1 []), digs ((spl 32 l).getD 2 []), [])] := by
  unfold cands; rw [if_neg (by omega), if_pos h]; rfl
theorem cands_else {l : List UInt8} (h2 : ¬ (spl 32 l).length = 2) (h3 : ¬ (spl 32 l).length = 3) : cands l = [(4, 0, 0, [])] := by
  unfold cands; rw [if_neg h2, if_neg h3]; rfl
set_option maxRecDepth 100000 in
set_option maxHeartbeats 1600000 in
theorem srd_else (l : List UInt8) (w : World) (hl : l.length ≤ 2000000) (h2 : ¬ (spl 32 l).length = 2) (h3 : ¬ (spl 32 l).length = 3) :
    Calls Tryz.prog 48 #[.string (bl l)] w (RdOut (rdV l) w) := by
  have hR1 := FourF.made w 55 0 0 0 ⟨#[]⟩
  have hb1 := below_new w (.cells #[.int .i64 0, .int .i64 0, .int .i64 0, .string ⟨#[]⟩] 55)
  go_enter Tryz.func48, Tryz.ntmps48
  go_wp2_with fail
  generalize w.alloc (.cells #[.int .i64 0, .int .i64 0, .int .i64 0, .string ⟨#[]⟩] 55) = w1 at *
  have K1 := l1Cut_c l 32 w1 (by omega)
  rw [show (((32 : UInt8).toNat : Nat) : Int) = 32 from rfl] at K1
  refine K1.mono ?_
  rintro e w2 ⟨A2, n2, c2, rfl, hT2, hb2⟩
  have hR2 := hR1.up hb2
  have hB2 := bt hb1 hb2
  have hz1 := hR1.1.1
  have hz2 := hb2.size
  have hn2 : (spl 32 l).length = n2 := by rw [← hT2.len, List.length_map]
  have hbA := below_new w2 (.cells #[.int .i64 4, .int .i64 0, .int .i64 0, .string ⟨#[]⟩] 55)
  have hO3 : OwnW (w2.alloc (.cells #[.int .i64 4, .int .i64 0, .int .i64 0, .string ⟨#[]⟩] 55)) w2.heap.size (.slice (some ⟨w2.heap.size, 0, none⟩) 1 1) [(4, 0, 0, ⟨#[]⟩)] := OwnW.new w2 w2.heap.size (Nat.le_refl _) [(4, 0, 0, ⟨#[]⟩)] _ rfl (by decide)
  have hR3 := hR2.up hbA
  have hB3 := bt hB2 hbA
  have hT3 := hT2.up hbA
  have hz3 := hbA.size
  rw [hn2] at h2 h3
  have q2 : ((n2 : Int) == 2) = false := by rw [beq_eq_false_iff_ne]; omega
  have q3 : ((n2 : Int) == 3) = false := by rw [beq_eq_false_iff_ne]; omega
  have hO9 : OwnW (w2.alloc (.cells #[.int .i64 4, .int .i64 0, .int .i64 0, .string ⟨#[]⟩] 55)) w2.heap.size (.slice (some ⟨w2.heap.size, 0, none⟩) 1 1) ((cands l).map toDd) := by
    rw [cands_else (by omega) (by omega)]; exact hO3
  have hR9 := hR3
  have hB9 := hB3
  clear hO3 hR3 hB3 hT3 hT2 hR2 hB2 hb2 hbA hR1 hb1 K1 h2 h3 hn2
  go_wp2_with fail
  have hE9 := hO9.rd
  have hle1 : (cands l).length = 1 := by rw [← hE9.len, List.length_map]
  clear hO9
  go_loopw [6] (fun i wr => ∃ k : Nat, k ≤ 1 ∧ i = .int .i64 (k : Int) ∧ FourF wr w.heap.size 0 0 0 ⟨#[]⟩ ∧ Below w.heap.size w wr ∧ RdE wr wr.heap.size (some ⟨w2.heap.size, 0, none⟩) 1 1 ((cands l).map toDd) ∧ (∀ j, j < k → ∀ d, (cands l)[j]? = some d → l = [] ∨ dtD d ≠ l)) (fun i _ => 1 - (intOf i).toNat)
  case atStart => exact ⟨0, Nat.zero_le _, rfl, hR9, hB9, hE9, fun j hj => absurd hj (Nat.not_lt_zero _)⟩
  case round =>
    clear hR9 hB9 hE9
    obtain ⟨k, hk, rfl, hR, hB, hE, hno⟩ := hrel
    have hcap := hE.cap
    have hmx := hE.max
    unfold maxLen at hmx
    by_cases hlt : k < 1
    · have hk' : k < (cands l).length := by omega
      obtain ⟨b, off, hAe, hbE, e0, e1, e2, e3⟩ := hE.at_ hlt
      cases hAe
      (try simp only [Nat.zero_add] at e0 e1 e2 e3)
      have hdg := dG_dd hk'
      have hmem : (cands l)[k] ∈ cands l := List.getElem_mem hk'
      have hget : (cands l)[k]? = some (cands l)[k] := List.getElem?_eq_getElem hk'
      have hle := cands_le hmem
      generalize (cands l)[k] = d at *
      rw [show dK ((cands l).map toDd) k = d.1 from by unfold dK; rw [hdg]; rfl] at e0
      rw [show dA ((cands l).map toDd) k = d.2.1 from by unfold dA; rw [hdg]; rfl] at e1
      rw [show dB ((cands l).map toDd) k = d.2.2.1 from by unfold dB; rw [hdg]; rfl] at e2
      rw [show dS ((cands l).map toDd) k = bl d.2.2.2 from by unfold dS; rw [hdg]; rfl] at e3
      clear hdg hmem hk'
      have hk0 : (0 : Int) ≤ (k : Int) := Int.natCast_nonneg _
      have hk1 : (k : Int) < 1 := by omega
      have hnx : l = [] ∨ dtD d ≠ l → ∀ j, j < k + 1 → ∀ d, (cands l)[j]? = some d → l = [] ∨ dtD d ≠ l := fun h j hj d' hd' => by
        rcases Nat.lt_or_ge j k with h1 | h1
        · exact hno j h1 d' hd'
        · obtain rfl : j = k := by omega
          rw [hget] at hd'
          cases hd'
          exact h
      by_cases hl0 : l = []
      · have HN := Lib.hid (hnx (.inl hl0))
        have HE := Lib.hid hE
        have HR := Lib.hid hR
        have q0 : ((bl l).toList == []) = true := by rw [bl_toList, hl0]; rfl
        have q1 : ((bl l).toList != []) = false := by unfold bne; rw [q0]; rfl
        have q2 : (bl l).toList.isEmpty = true := by rw [bl_toList, hl0]; rfl
        have q3 : (bl l).toList = [] := by rw [bl_toList, hl0]
        clear hno hget hnx hl0 hR hE
        go_wp2_with fail
        go_roundw
        case rel => exact ⟨k + 1, by omega, by go_num, HR.out, hB, HE.out, HN.out⟩
        case measure => simp [intOf]; omega
      · have q0 : ((bl l).toList == []) = false := by rw [bl_toList]; exact beqF hl0
        have q1 : ((bl l).toList != []) = true := by unfold bne; rw [q0]; rfl
        have q2 : (bl l).toList.isEmpty = false := by rw [bl_toList]; cases l with
          | nil => exact absurd rfl hl0
          | cons => rfl
        have q3 : ¬ (bl l).toList = [] := by rw [bl_toList]; exact hl0
        have K4 := fun W => sDeedText_c d.1 d.2.1 d.2.2.1 (bl d.2.2.2) W (by rw [bl_size]; omega)
        rw [dtX_dd] at K4
        have HE := Lib.hid hE
        have HR := Lib.hid hR
        have HB := Lib.hid hB
        have HN := Lib.hid hnx
        clear hR hE hB hnx hno hget
        generalize hd1 : d.1 = kd at *
        generalize hd2 : d.2.1 = a1 at *
        generalize hd3 : d.2.2.1 = b1 at *
        go_wp2_with fail
        refine (K4 _).mono ?_
        rintro e w4 ⟨rfl, hb4⟩
        have hR4 := HR.out.up hb4
        have hE4 := HE.out.up hb4
        have hB4 := bt HB.out hb4
        clear K4
        by_cases hq : dtD d = l
        · rw [hq]
          have f0 := cellUp hb4 e0
          have f1 := cellUp hb4 e1
          have f2 := cellUp hb4 e2
          have f3 := cellUp hb4 e3
          have HV : Hid (rdV l = ((kd, a1, b1, d.2.2.2), true)) := Lib.hid (by rw [← hd1, ← hd2, ← hd3]; exact rdV_yes hl0 hq)
          have hend := (((hB4.setCell (p := ⟨w.heap.size, 0, none⟩) (Nat.le_refl _) (.int .i64 kd)).setCell (p := ⟨w.heap.size, 1, none⟩) (Nat.le_refl _) (.int .i64 a1)).setCell (p := ⟨w.heap.size, 2, none⟩) (Nat.le_refl _) (.int .i64 b1)).setCell (p := ⟨w.heap.size, 3, none⟩) (Nat.le_refl _) (.string (bl d.2.2.2))
          have HT := Lib.hid (hR4.set kd a1 b1 (bl d.2.2.2))
          have HEn := Lib.hid hend
          obtain ⟨⟨_, r0, r1, r2, r3⟩, g0, g1, g2, g3⟩ := id hR4
          clear hend hR4 hE4 hB4 HE HR HB HN e0 e1 e2 e3 hb4 hq hd1 hd2 hd3 hl0
          go_wp2_with fail
          (try simp only [Exit.inBlock, Exit.then])
          refine bodyPost_ret (v := .tuple #[.agg #[.int .i64 kd, .int .i64 a1, .int .i64 b1, .string (bl d.2.2.2)], .bool true]) ?_ rfl ⟨by rw [HV.out], HEn.out⟩
          exact Eq.trans (results_four_tmp (p := 2) (r := 3) rfl _ _ w.heap.size _ _ _ _ _ rfl HT.out.1.2 Tryz.underlying55 rfl deed_size) rfl
        · have qT : ((bl (dtD d)).toList == (bl l).toList) = false := by rw [bl_toList, bl_toList]; exact beqF hq
          have HN2 := Lib.hid (HN.out (.inr hq))
          generalize bl (dtD d) = T at *
          have HR4 := Lib.hid hR4
          have HE4 := Lib.hid hE4
          clear hR4 hE4 HN HE HR HB hq hl0 e0 e1 e2 e3 hb4
          go_wp2_with fail
          go_roundw
          case rel => exact ⟨k + 1, by omega, by go_num, HR4.out, hB4, HE4.out, HN2.out⟩
          case measure => simp [intOf]; omega
    · obtain rfl : k = 1 := by omega
      have HV : Hid (rdV l = ((0, 0, 0, []), false)) := Lib.hid (rdV_cands (fun d hd => by
        obtain ⟨j, hj, he⟩ := List.getElem_of_mem hd
        exact hno j (by omega) d (by rw [List.getElem?_eq_getElem hj, he])))
      have hend := (((hB.setCell (p := ⟨w.heap.size, 0, none⟩) (Nat.le_refl _) (.int .i64 0)).setCell (p := ⟨w.heap.size, 1, none⟩) (Nat.le_refl _) (.int .i64 0)).setCell (p := ⟨w.heap.size, 2, none⟩) (Nat.le_refl _) (.int .i64 0)).setCell (p := ⟨w.heap.size, 3, none⟩) (Nat.le_refl _) (.string ⟨#[]⟩)
      have HT := Lib.hid (hR.set 0 0 0 ⟨#[]⟩)
      have HEn := Lib.hid hend
      obtain ⟨⟨_, r0, r1, r2, r3⟩, g0, g1, g2, g3⟩ := id hR
      clear hend hR hE hB hno
      go_wp2_with fail
      (try simp only [Exit.inBlock, Exit.then])
      refine bodyPost_ret (v := .tuple #[.agg #[.int .i64 0, .int .i64 0, .int .i64 0, .string ⟨#[]⟩], .bool false]) ?_ rfl ⟨by rw [HV.out]; rfl, HEn.out⟩
      exact Eq.trans (results_four_tmp (p := 2) (r := 3) rfl _ _ w.heap.size _ _ _ _ _ rfl HT.out.1.2 Tryz.underlying55 rfl deed_size) rfl
set_option maxRecDepth 100000 in
set_option maxHeartbeats 1600000 in
theorem srd_two (l : List UInt8) (w : World) (hl : l.length ≤ 2000000) (h2 : (spl 32 l).length = 2) :
    Calls Tryz.prog 48 #[.string (bl l)] w (RdOut (rdV l) w) := by
  have hR1 := FourF.made w 55 0 0 0 ⟨#[]⟩
  have hb1 := below_new w (.cells #[.int .i64 0, .int .i64 0, .int .i64 0, .string ⟨#[]⟩] 55)
  go_enter Tryz.func48, Tryz.ntmps48
  go_wp2_with fail
  generalize w.alloc (.cells #[.int .i64 0, .int .i64 0, .int .i64 0, .string ⟨#[]⟩] 55) = w1 at *
  have K1 := l1Cut_c l 32 w1 (by omega)
  rw [show (((32 : UInt8).toNat : Nat) : Int) = 32 from rfl] at K1
  refine K1.mono ?_
  rintro e w2 ⟨A2, n2, c2, rfl, hT2, hb2⟩
  have hR2 := hR1.up hb2
  have hB2 := bt hb1 hb2
  have hz1 := hR1.1.1
  have hz2 := hb2.size
  have hn2 : (spl 32 l).length = n2 := by rw [← hT2.len, List.length_map]
  have hbA := below_new w2 (.cells #[.int .i64 4, .int .i64 0, .int .i64 0, .string ⟨#[]⟩] 55)
  have hO3 : OwnW (w2.alloc (.cells #[.int .i64 4, .int .i64 0, .int .i64 0, .string ⟨#[]⟩] 55)) w2.heap.size (.slice (some ⟨w2.heap.size, 0, none⟩) 1 1) [(4, 0, 0, ⟨#[]⟩)] := OwnW.new w2 w2.heap.size (Nat.le_refl _) [(4, 0, 0, ⟨#[]⟩)] _ rfl (by decide)
  have hR3 := hR2.up hbA
  have hB3 := bt hB2 hbA
  have hT3 := hT2.up hbA
  have hz3 := hbA.size
  rw [hn2] at h2
  subst h2
  obtain ⟨b2, off2, hA2, hb2lt, hcells2⟩ := hT2.2.2.2 (by omega)
  cases hA2
  have hc1 := cellUp hbA (hcells2 1 (by omega))
  rw [gT_bl] at hc1
  have hx1 := spl_at 32 l 1
  have KD1 := fun W => l1Digits_c (bl ((spl 32 l).getD 1 [])) W (by rw [bl_size]; omega)
  rw [bl_list] at KD1
  have HC : Hid ((cands l).map toDd = [(4, 0, 0, ⟨#[]⟩)] ++ [(1, 0, 0, bl ((spl 32 l).getD 1 [])), (3, 0, 0, bl ((spl 32 l).getD 1 [])), (2, digs ((spl 32 l).getD 1 []), 0, ⟨#[]⟩)]) := Lib.hid (by rw [cands_two hn2]; rfl)
  generalize bl ((spl 32 l).getD 1 []) = X1 at *
  generalize digs ((spl 32 l).getD 1 []) = y1 at *
  clear hcells2 hx1 hT2 hR2 hB2 hb2 hbA hR1 hb1 K1
  go_wp2_with fail
  generalize (w2.alloc (.cells #[.int .i64 4, .int .i64 0, .int .i64 0, .string ⟨#[]⟩] 55)) = w3 at *
  have hb4 : Below w3.heap.size w3 (World.drew (w3.alloc (.cells #[.int .i64 1, .int .i64 0, .int .i64 0, .string X1, .int .i64 3, .int .i64 0, .int .i64 0, .string X1, .int .i64 2, .int .i64 y1, .int .i64 0, .string ⟨#[]⟩] 55))) := bd (below_new _ _) 1
  have hO4 : OwnW (World.drew (w3.alloc (.cells #[.int .i64 1, .int .i64 0, .int .i64 0, .string X1, .int .i64 3, .int .i64 0, .int .i64 0, .string X1, .int .i64 2, .int .i64 y1, .int .i64 0, .string ⟨#[]⟩] 55))) w2.heap.size (.slice (some ⟨w2.heap.size, 0, none⟩) 1 1) [(4, 0, 0, ⟨#[]⟩)] := (hO3.up (below_new _ _)).dn 1
  have hN4 : RdE (World.drew (w3.alloc (.cells #[.int .i64 1, .int .i64 0, .int .i64 0, .string X1, .int .i64 3, .int .i64 0, .int .i64 0, .string X1, .int .i64 2, .int .i64 y1, .int .i64 0, .string ⟨#[]⟩] 55))) (World.drew (w3.alloc (.cells #[.int .i64 1, .int .i64 0, .int .i64 0, .string X1, .int .i64 3, .int .i64 0, .int .i64 0, .string X1, .int .i64 2, .int .i64 y1, .int .i64 0, .string ⟨#[]⟩] 55))).heap.size (some ⟨w3.heap.size, 0, none⟩) 3 3 [(1, 0, 0, X1), (3, 0, 0, X1), (2, y1, 0, ⟨#[]⟩)] := (OwnW.new w3 w3.heap.size (Nat.le_refl _) [(1, 0, 0, X1), (3, 0, 0, X1), (2, y1, 0, ⟨#[]⟩)] _ rfl (by simp)).rd
  have hB4 := bt hB3 hb4
  have hz4 := hb4.size
  have hlt2 : b2 < w2.heap.size := hb2lt
  have Y3 : Hid (World.cell? w3.drew ⟨b2, off2 + 1, none⟩ = some (.string X1)) := Lib.hid hc1
  have Y4 : Hid (World.cell? (World.drew (w3.alloc (.cells #[.int .i64 1, .int .i64 0, .int .i64 0, .string X1, .int .i64 3, .int .i64 0, .int .i64 0, .string X1, .int .i64 2, .int .i64 y1, .int .i64 0, .string ⟨#[]⟩] 55))) ⟨b2, off2 + 1, none⟩ = some (.string X1)) := Lib.hid (cellUp hb4 hc1)
  have HR3 := Lib.hid hR3
  have HB4 := Lib.hid hB4
  have HB44 := Lib.hid hb4
  have HO4 := Lib.hid hO4
  have HN4 := Lib.hid hN4
  clear hR3 hB4 hB3 hb4 hO3 hO4 hN4 hT3 hc1 
  go_region_held3 (fun w' => World.cell? w' ⟨b2, off2 + 1, none⟩ = some (.string X1))
    (first | exact Y3.out | exact Y4.out | exact Y5.out)
    (first
      | (go_at_call_of 63 (Value.string X1); with_reducible refine (KD1 _).mono ?_; rintro e w' ⟨rfl, rfl⟩)
      | (refine step_app_ds _ (by rfl) _ _ (by rfl) w2.heap.size _ [(4, 0, 0, ⟨#[]⟩)] [(1, 0, 0, X1), (3, 0, 0, X1), (2, y1, 0, ⟨#[]⟩)] (by rfl) HO4.out _ 3 3 (by rfl) HN4.out (by omega) (by decide) (by omega) (by omega) ?_; intro v5 w5 hown5 hb5; have Y5 : Hid (World.cell? w5 ⟨b2, off2 + 1, none⟩ = some (.string X1)) := Lib.hid ((hb5.cell (p := ⟨b2, off2 + 1, none⟩) hlt2).trans Y4.out)))
  have hR9 : FourF w5 w.heap.size 0 0 0 ⟨#[]⟩ := (HR3.out.up HB44.out).chg (lo := w2.heap.size) (hi := (World.drew (w3.alloc (.cells #[.int .i64 1, .int .i64 0, .int .i64 0, .string X1, .int .i64 3, .int .i64 0, .int .i64 0, .string X1, .int .i64 2, .int .i64 y1, .int .i64 0, .string ⟨#[]⟩] 55))).heap.size) (chg_of_low hb5) (.inl (by omega))
  have hB9 : Below w.heap.size w w5 := HB4.out.trans (hb5.mono (by omega))
  have hO9 : OwnW w5 w2.heap.size v5 ((cands l).map toDd) := by rw [HC.out]; exact hown5
  obtain ⟨A9, c9, rfl, hE0⟩ := hO9.slice_
  have hl9 : ((cands l).map toDd).length = 4 := by rw [HC.out]; rfl
  rw [hl9] at hO9 ⊢
  clear hE0 HR3 HB4 HB44 HO4 HN4 Y3 Y4 Y5 hown5 hb5 KD1 HC hl9
  go_wp2_with fail
  have hE9 := hO9.rd
  have hle4 : (cands l).length = 4 := by rw [← hE9.len, List.length_map]
  clear hO9
  go_loopw [6] (fun i wr => ∃ k : Nat, k ≤ 4 ∧ i = .int .i64 (k : Int) ∧ FourF wr w.heap.size 0 0 0 ⟨#[]⟩ ∧ Below w.heap.size w wr ∧ RdE wr wr.heap.size A9 4 c9 ((cands l).map toDd) ∧ (∀ j, j < k → ∀ d, (cands l)[j]? = some d → l = [] ∨ dtD d ≠ l)) (fun i _ => 4 - (intOf i).toNat)
  case atStart => exact ⟨0, Nat.zero_le _, rfl, hR9, hB9, hE9, fun j hj => absurd hj (Nat.not_lt_zero _)⟩
  case round =>
    clear hR9 hB9 hE9
    obtain ⟨k, hk, rfl, hR, hB, hE, hno⟩ := hrel
    have hcap := hE.cap
    have hmx := hE.max
    unfold maxLen at hmx
    by_cases hlt : k < 4
    · have hk' : k < (cands l).length := by omega
      obtain ⟨b, off, hAe, hbE, e0, e1, e2, e3⟩ := hE.at_ hlt
      cases hAe
      (try simp only [Nat.zero_add] at e0 e1 e2 e3)
      have hdg := dG_dd hk'
      have hmem : (cands l)[k] ∈ cands l := List.getElem_mem hk'
      have hget : (cands l)[k]? = some (cands l)[k] := List.getElem?_eq_getElem hk'
      have hle := cands_le hmem
      generalize (cands l)[k] = d at *
      rw [show dK ((cands l).map toDd) k = d.1 from by unfold dK; rw [hdg]; rfl] at e0
      rw [show dA ((cands l).map toDd) k = d.2.1 from by unfold dA; rw [hdg]; rfl] at e1
      rw [show dB ((cands l).map toDd) k = d.2.2.1 from by unfold dB; rw [hdg]; rfl] at e2
      rw [show dS ((cands l).map toDd) k = bl d.2.2.2 from by unfold dS; rw [hdg]; rfl] at e3
      clear hdg hmem hk'
      have hk0 : (0 : Int) ≤ (k : Int) := Int.natCast_nonneg _
      have hk1 : (k : Int) < 4 := by omega
      have hnx : l = [] ∨ dtD d ≠ l → ∀ j, j < k + 1 → ∀ d, (cands l)[j]? = some d → l = [] ∨ dtD d ≠ l := fun h j hj d' hd' => by
        rcases Nat.lt_or_ge j k with h1 | h1
        · exact hno j h1 d' hd'
        · obtain rfl : j = k := by omega
          rw [hget] at hd'
          cases hd'
          exact h
      by_cases hl0 : l = []
      · have HN := Lib.hid (hnx (.inl hl0))
        have HE := Lib.hid hE
        have HR := Lib.hid hR
        have q0 : ((bl l).toList == []) = true := by rw [bl_toList, hl0]; rfl
        have q1 : ((bl l).toList != []) = false := by unfold bne; rw [q0]; rfl
        have q2 : (bl l).toList.isEmpty = true := by rw [bl_toList, hl0]; rfl
        have q3 : (bl l).toList = [] := by rw [bl_toList, hl0]
        clear hno hget hnx hl0 hR hE
        go_wp2_with fail
        go_roundw
        case rel => exact ⟨k + 1, by omega, by go_num, HR.out, hB, HE.out, HN.out⟩
        case measure => simp [intOf]; omega
      · have q0 : ((bl l).toList == []) = false := by rw [bl_toList]; exact beqF hl0
        have q1 : ((bl l).toList != []) = true := by unfold bne; rw [q0]; rfl
        have q2 : (bl l).toList.isEmpty = false := by rw [bl_toList]; cases l with
          | nil => exact absurd rfl hl0
          | cons => rfl
        have q3 : ¬ (bl l).toList = [] := by rw [bl_toList]; exact hl0
        have K4 := fun W => sDeedText_c d.1 d.2.1 d.2.2.1 (bl d.2.2.2) W (by rw [bl_size]; omega)
        rw [dtX_dd] at K4
        have HE := Lib.hid hE
        have HR := Lib.hid hR
        have HB := Lib.hid hB
        have HN := Lib.hid hnx
        clear hR hE hB hnx hno hget
        generalize hd1 : d.1 = kd at *
        generalize hd2 : d.2.1 = a1 at *
        generalize hd3 : d.2.2.1 = b1 at *
        go_wp2_with fail
        refine (K4 _).mono ?_
        rintro e w4 ⟨rfl, hb4⟩
        have hR4 := HR.out.up hb4
        have hE4 := HE.out.up hb4
        have hB4 := bt HB.out hb4
        clear K4
        by_cases hq : dtD d = l
        · rw [hq]
          have f0 := cellUp hb4 e0
          have f1 := cellUp hb4 e1
          have f2 := cellUp hb4 e2
          have f3 := cellUp hb4 e3
          have HV : Hid (rdV l = ((kd, a1, b1, d.2.2.2), true)) := Lib.hid (by rw [← hd1, ← hd2, ← hd3]; exact rdV_yes hl0 hq)
          have hend := (((hB4.setCell (p := ⟨w.heap.size, 0, none⟩) (Nat.le_refl _) (.int .i64 kd)).setCell (p := ⟨w.heap.size, 1, none⟩) (Nat.le_refl _) (.int .i64 a1)).setCell (p := ⟨w.heap.size, 2, none⟩) (Nat.le_refl _) (.int .i64 b1)).setCell (p := ⟨w.heap.size, 3, none⟩) (Nat.le_refl _) (.string (bl d.2.2.2))
          have HT := Lib.hid (hR4.set kd a1 b1 (bl d.2.2.2))
          have HEn := Lib.hid hend
          obtain ⟨⟨_, r0, r1, r2, r3⟩, g0, g1, g2, g3⟩ := id hR4
          clear hend hR4 hE4 hB4 HE HR HB HN e0 e1 e2 e3 hb4 hq hd1 hd2 hd3 hl0
          go_wp2_with fail
          (try simp only [Exit.inBlock, Exit.then])
          refine bodyPost_ret (v := .tuple #[.agg #[.int .i64 kd, .int .i64 a1, .int .i64 b1, .string (bl d.2.2.2)], .bool true]) ?_ rfl ⟨by rw [HV.out], HEn.out⟩
          exact Eq.trans (results_four_tmp (p := 2) (r := 3) rfl _ _ w.heap.size _ _ _ _ _ rfl HT.out.1.2 Tryz.underlying55 rfl deed_size) rfl
        · have qT : ((bl (dtD d)).toList == (bl l).toList) = false := by rw [bl_toList, bl_toList]; exact beqF hq
          have HN2 := Lib.hid (HN.out (.inr hq))
          generalize bl (dtD d) = T at *
          have HR4 := Lib.hid hR4
          have HE4 := Lib.hid hE4
          clear hR4 hE4 HN HE HR HB hq hl0 e0 e1 e2 e3 hb4
          go_wp2_with fail
          go_roundw
          case rel => exact ⟨k + 1, by omega, by go_num, HR4.out, hB4, HE4.out, HN2.out⟩
          case measure => simp [intOf]; omega
    · obtain rfl : k = 4 := by omega
      have HV : Hid (rdV l = ((0, 0, 0, []), false)) := Lib.hid (rdV_cands (fun d hd => by
        obtain ⟨j, hj, he⟩ := List.getElem_of_mem hd
        exact hno j (by omega) d (by rw [List.getElem?_eq_getElem hj, he])))
      have hend := (((hB.setCell (p := ⟨w.heap.size, 0, none⟩) (Nat.le_refl _) (.int .i64 0)).setCell (p := ⟨w.heap.size, 1, none⟩) (Nat.le_refl _) (.int .i64 0)).setCell (p := ⟨w.heap.size, 2, none⟩) (Nat.le_refl _) (.int .i64 0)).setCell (p := ⟨w.heap.size, 3, none⟩) (Nat.le_refl _) (.string ⟨#[]⟩)
      have HT := Lib.hid (hR.set 0 0 0 ⟨#[]⟩)
      have HEn := Lib.hid hend
      obtain ⟨⟨_, r0, r1, r2, r3⟩, g0, g1, g2, g3⟩ := id hR
      clear hend hR hE hB hno
      go_wp2_with fail
      (try simp only [Exit.inBlock, Exit.then])
      refine bodyPost_ret (v := .tuple #[.agg #[.int .i64 0, .int .i64 0, .int .i64 0, .string ⟨#[]⟩], .bool false]) ?_ rfl ⟨by rw [HV.out]; rfl, HEn.out⟩
      exact Eq.trans (results_four_tmp (p := 2) (r := 3) rfl _ _ w.heap.size _ _ _ _ _ rfl HT.out.1.2 Tryz.underlying55 rfl deed_size) rfl
set_option maxRecDepth 100000 in
set_option maxHeartbeats 1600000 in
theorem srd_three (l : List UInt8) (w : World) (hl : l.length ≤ 2000000) (h3 : (spl 32 l).length = 3) :
    Calls Tryz.prog 48 #[.string (bl l)] w (RdOut (rdV l) w) := by
  have hR1 := FourF.made w 55 0 0 0 ⟨#[]⟩
  have hb1 := below_new w (.cells #[.int .i64 0, .int .i64 0, .int .i64 0, .string ⟨#[]⟩] 55)
  go_enter Tryz.func48, Tryz.ntmps48
  go_wp2_with fail
  generalize w.alloc (.cells #[.int .i64 0, .int .i64 0, .int .i64 0, .string ⟨#[]⟩] 55) = w1 at *
  have K1 := l1Cut_c l 32 w1 (by omega)
  rw [show (((32 : UInt8).toNat : Nat) : Int) = 32 from rfl] at K1
  refine K1.mono ?_
  rintro e w2 ⟨A2, n2, c2, rfl, hT2, hb2⟩
  have hR2 := hR1.up hb2
  have hB2 := bt hb1 hb2
  have hz1 := hR1.1.1
  have hz2 := hb2.size
  have hn2 : (spl 32 l).length = n2 := by rw [← hT2.len, List.length_map]
  have hbA := below_new w2 (.cells #[.int .i64 4, .int .i64 0, .int .i64 0, .string ⟨#[]⟩] 55)
  have hO3 : OwnW (w2.alloc (.cells #[.int .i64 4, .int .i64 0, .int .i64 0, .string ⟨#[]⟩] 55)) w2.heap.size (.slice (some ⟨w2.heap.size, 0, none⟩) 1 1) [(4, 0, 0, ⟨#[]⟩)] := OwnW.new w2 w2.heap.size (Nat.le_refl _) [(4, 0, 0, ⟨#[]⟩)] _ rfl (by decide)
  have hR3 := hR2.up hbA
  have hB3 := bt hB2 hbA
  have hT3 := hT2.up hbA
  have hz3 := hbA.size
  rw [hn2] at h3
  subst h3
  obtain ⟨b2, off2, hA2, hb2lt, hcells2⟩ := hT2.2.2.2 (by omega)
  cases hA2
  have hc1 := cellUp hbA (hcells2 1 (by omega))
  rw [gT_bl] at hc1
  have hc2 := cellUp hbA (hcells2 2 (by omega))
  rw [gT_bl] at hc2
  have hx1 := spl_at 32 l 1
  have KD1 := fun W => l1Digits_c (bl ((spl 32 l).getD 1 [])) W (by rw [bl_size]; omega)
  rw [bl_list] at KD1
  have hx2 := spl_at 32 l 2
  have KD2 := fun W => l1Digits_c (bl ((spl 32 l).getD 2 [])) W (by rw [bl_size]; omega)
  rw [bl_list] at KD2
  have HC : Hid ((cands l).map toDd = [(4, 0, 0, ⟨#[]⟩)] ++ [(0, digs ((spl 32 l).getD 1 []), digs ((spl 32 l).getD 2 []), ⟨#[]⟩)]) := Lib.hid (by rw [cands_three hn2]; rfl)
  generalize bl ((spl 32 l).getD 1 []) = X1 at *
  generalize digs ((spl 32 l).getD 1 []) = y1 at *
  generalize bl ((spl 32 l).getD 2 []) = X2 at *
  generalize digs ((spl 32 l).getD 2 []) = y2 at *
  clear hcells2 hx1 hx2 hT2 hR2 hB2 hb2 hbA hR1 hb1 K1
  go_wp2_with fail
  generalize (w2.alloc (.cells #[.int .i64 4, .int .i64 0, .int .i64 0, .string ⟨#[]⟩] 55)) = w3 at *
  have hb4 : Below w3.heap.size w3 (World.drew (w3.alloc (.cells #[.int .i64 0, .int .i64 y1, .int .i64 y2, .string ⟨#[]⟩] 55))) := bd (below_new _ _) 1
  have hO4 : OwnW (World.drew (w3.alloc (.cells #[.int .i64 0, .int .i64 y1, .int .i64 y2, .string ⟨#[]⟩] 55))) w2.heap.size (.slice (some ⟨w2.heap.size, 0, none⟩) 1 1) [(4, 0, 0, ⟨#[]⟩)] := (hO3.up (below_new _ _)).dn 1
  have hN4 : RdE (World.drew (w3.alloc (.cells #[.int .i64 0, .int .i64 y1, .int .i64 y2, .string ⟨#[]⟩] 55))) (World.drew (w3.alloc (.cells #[.int .i64 0, .int .i64 y1, .int .i64 y2, .string ⟨#[]⟩] 55))).heap.size (some ⟨w3.heap.size, 0, none⟩) 1 1 [(0, y1, y2, ⟨#[]⟩)] := (OwnW.new w3 w3.heap.size (Nat.le_refl _) [(0, y1, y2, ⟨#[]⟩)] _ rfl (by simp)).rd
  have hB4 := bt hB3 hb4
  have hz4 := hb4.size
  have hlt2 : b2 < w2.heap.size := hb2lt
  have Y3 : Hid (World.cell? w3.drew ⟨b2, off2 + 1, none⟩ = some (.string X1) ∧ World.cell? w3.drew ⟨b2, off2 + 2, none⟩ = some (.string X2)) := Lib.hid ⟨hc1, hc2⟩
  have Y4 : Hid (World.cell? (World.drew (w3.alloc (.cells #[.int .i64 0, .int .i64 y1, .int .i64 y2, .string ⟨#[]⟩] 55))) ⟨b2, off2 + 1, none⟩ = some (.string X1) ∧ World.cell? (World.drew (w3.alloc (.cells #[.int .i64 0, .int .i64 y1, .int .i64 y2, .string ⟨#[]⟩] 55))) ⟨b2, off2 + 2, none⟩ = some (.string X2)) := Lib.hid ⟨cellUp hb4 hc1, cellUp hb4 hc2⟩
  have HR3 := Lib.hid hR3
  have HB4 := Lib.hid hB4
  have HB44 := Lib.hid hb4
  have HO4 := Lib.hid hO4
  have HN4 := Lib.hid hN4
  clear hR3 hB4 hB3 hb4 hO3 hO4 hN4 hT3 hc1 hc2
  go_region_held3 (fun w' => World.cell? w' ⟨b2, off2 + 1, none⟩ = some (.string X1) ∧ World.cell? w' ⟨b2, off2 + 2, none⟩ = some (.string X2))
    (first | exact Y3.out | exact Y4.out | exact Y5.out)
    (first
      | (go_at_call_of 63 (Value.string X1); with_reducible refine (KD1 _).mono ?_; rintro e w' ⟨rfl, rfl⟩)
      | (go_at_call_of 63 (Value.string X2); with_reducible refine (KD2 _).mono ?_; rintro e w' ⟨rfl, rfl⟩)
      | (refine step_app_ds _ (by rfl) _ _ (by rfl) w2.heap.size _ [(4, 0, 0, ⟨#[]⟩)] [(0, y1, y2, ⟨#[]⟩)] (by rfl) HO4.out _ 1 1 (by rfl) HN4.out (by omega) (by decide) (by omega) (by omega) ?_; intro v5 w5 hown5 hb5; have Y5 : Hid (World.cell? w5 ⟨b2, off2 + 1, none⟩ = some (.string X1) ∧ World.cell? w5 ⟨b2, off2 + 2, none⟩ = some (.string X2)) := Lib.hid ⟨(hb5.cell (p := ⟨b2, off2 + 1, none⟩) hlt2).trans Y4.out.1, (hb5.cell (p := ⟨b2, off2 + 2, none⟩) hlt2).trans Y4.out.2⟩))
  have hR9 : FourF w5 w.heap.size 0 0 0 ⟨#[]⟩ := (HR3.out.up HB44.out).chg (lo := w2.heap.size) (hi := (World.drew (w3.alloc (.cells #[.int .i64 0, .int .i64 y1, .int .i64 y2, .string ⟨#[]⟩] 55))).heap.size) (chg_of_low hb5) (.inl (by omega))
  have hB9 : Below w.heap.size w w5 := HB4.out.trans (hb5.mono (by omega))
  have hO9 : OwnW w5 w2.heap.size v5 ((cands l).map toDd) := by rw [HC.out]; exact hown5
  obtain ⟨A9, c9, rfl, hE0⟩ := hO9.slice_
  have hl9 : ((cands l).map toDd).length = 2 := by rw [HC.out]; rfl
  rw [hl9] at hO9 ⊢
  clear hE0 HR3 HB4 HB44 HO4 HN4 Y3 Y4 Y5 hown5 hb5 KD1 KD2 HC hl9
  go_wp2_with fail
  have hE9 := hO9.rd
  have hle2 : (cands l).length = 2 := by rw [← hE9.len, List.length_map]
  clear hO9
  go_loopw [6] (fun i wr => ∃ k : Nat, k ≤ 2 ∧ i = .int .i64 (k : Int) ∧ FourF wr w.heap.size 0 0 0 ⟨#[]⟩ ∧ Below w.heap.size w wr ∧ RdE wr wr.heap.size A9 2 c9 ((cands l).map toDd) ∧ (∀ j, j < k → ∀ d, (cands l)[j]? = some d → l = [] ∨ dtD d ≠ l)) (fun i _ => 2 - (intOf i).toNat)
  case atStart => exact ⟨0, Nat.zero_le _, rfl, hR9, hB9, hE9, fun j hj => absurd hj (Nat.not_lt_zero _)⟩
  case round =>
    clear hR9 hB9 hE9
    obtain ⟨k, hk, rfl, hR, hB, hE, hno⟩ := hrel
    have hcap := hE.cap
    have hmx := hE.max
    unfold maxLen at hmx
    by_cases hlt : k < 2
    · have hk' : k < (cands l).length := by omega
      obtain ⟨b, off, hAe, hbE, e0, e1, e2, e3⟩ := hE.at_ hlt
      cases hAe
      (try simp only [Nat.zero_add] at e0 e1 e2 e3)
      have hdg := dG_dd hk'
      have hmem : (cands l)[k] ∈ cands l := List.getElem_mem hk'
      have hget : (cands l)[k]? = some (cands l)[k] := List.getElem?_eq_getElem hk'
      have hle := cands_le hmem
      generalize (cands l)[k] = d at *
      rw [show dK ((cands l).map toDd) k = d.1 from by unfold dK; rw [hdg]; rfl] at e0
      rw [show dA ((cands l).map toDd) k = d.2.1 from by unfold dA; rw [hdg]; rfl] at e1
      rw [show dB ((cands l).map toDd) k = d.2.2.1 from by unfold dB; rw [hdg]; rfl] at e2
      rw [show dS ((cands l).map toDd) k = bl d.2.2.2 from by unfold dS; rw [hdg]; rfl] at e3
      clear hdg hmem hk'
      have hk0 : (0 : Int) ≤ (k : Int) := Int.natCast_nonneg _
      have hk1 : (k : Int) < 2 := by omega
      have hnx : l = [] ∨ dtD d ≠ l → ∀ j, j < k + 1 → ∀ d, (cands l)[j]? = some d → l = [] ∨ dtD d ≠ l := fun h j hj d' hd' => by
        rcases Nat.lt_or_ge j k with h1 | h1
        · exact hno j h1 d' hd'
        · obtain rfl : j = k := by omega
          rw [hget] at hd'
          cases hd'
          exact h
      by_cases hl0 : l = []
      · have HN := Lib.hid (hnx (.inl hl0))
        have HE := Lib.hid hE
        have HR := Lib.hid hR
        have q0 : ((bl l).toList == []) = true := by rw [bl_toList, hl0]; rfl
        have q1 : ((bl l).toList != []) = false := by unfold bne; rw [q0]; rfl
        have q2 : (bl l).toList.isEmpty = true := by rw [bl_toList, hl0]; rfl
        have q3 : (bl l).toList = [] := by rw [bl_toList, hl0]
        clear hno hget hnx hl0 hR hE
        go_wp2_with fail
        go_roundw
        case rel => exact ⟨k + 1, by omega, by go_num, HR.out, hB, HE.out, HN.out⟩
        case measure => simp [intOf]; omega
      · have q0 : ((bl l).toList == []) = false := by rw [bl_toList]; exact beqF hl0
        have q1 : ((bl l).toList != []) = true := by unfold bne; rw [q0]; rfl
        have q2 : (bl l).toList.isEmpty = false := by rw [bl_toList]; cases l with
          | nil => exact absurd rfl hl0
          | cons => rfl
        have q3 : ¬ (bl l).toList = [] := by rw [bl_toList]; exact hl0
        have K4 := fun W => sDeedText_c d.1 d.2.1 d.2.2.1 (bl d.2.2.2) W (by rw [bl_size]; omega)
        rw [dtX_dd] at K4
        have HE := Lib.hid hE
        have HR := Lib.hid hR
        have HB := Lib.hid hB
        have HN := Lib.hid hnx
        clear hR hE hB hnx hno hget
        generalize hd1 : d.1 = kd at *
        generalize hd2 : d.2.1 = a1 at *
        generalize hd3 : d.2.2.1 = b1 at *
        go_wp2_with fail
        refine (K4 _).mono ?_
        rintro e w4 ⟨rfl, hb4⟩
        have hR4 := HR.out.up hb4
        have hE4 := HE.out.up hb4
        have hB4 := bt HB.out hb4
        clear K4
        by_cases hq : dtD d = l
        · rw [hq]
          have f0 := cellUp hb4 e0
          have f1 := cellUp hb4 e1
          have f2 := cellUp hb4 e2
          have f3 := cellUp hb4 e3
          have HV : Hid (rdV l = ((kd, a1, b1, d.2.2.2), true)) := Lib.hid (by rw [← hd1, ← hd2, ← hd3]; exact rdV_yes hl0 hq)
          have hend := (((hB4.setCell (p := ⟨w.heap.size, 0, none⟩) (Nat.le_refl _) (.int .i64 kd)).setCell (p := ⟨w.heap.size, 1, none⟩) (Nat.le_refl _) (.int .i64 a1)).setCell (p := ⟨w.heap.size, 2, none⟩) (Nat.le_refl _) (.int .i64 b1)).setCell (p := ⟨w.heap.size, 3, none⟩) (Nat.le_refl _) (.string (bl d.2.2.2))
          have HT := Lib.hid (hR4.set kd a1 b1 (bl d.2.2.2))
          have HEn := Lib.hid hend
          obtain ⟨⟨_, r0, r1, r2, r3⟩, g0, g1, g2, g3⟩ := id hR4
          clear hend hR4 hE4 hB4 HE HR HB HN e0 e1 e2 e3 hb4 hq hd1 hd2 hd3 hl0
          go_wp2_with fail
          (try simp only [Exit.inBlock, Exit.then])
          refine bodyPost_ret (v := .tuple #[.agg #[.int .i64 kd, .int .i64 a1, .int .i64 b1, .string (bl d.2.2.2)], .bool true]) ?_ rfl ⟨by rw [HV.out], HEn.out⟩
          exact Eq.trans (results_four_tmp (p := 2) (r := 3) rfl _ _ w.heap.size _ _ _ _ _ rfl HT.out.1.2 Tryz.underlying55 rfl deed_size) rfl
        · have qT : ((bl (dtD d)).toList == (bl l).toList) = false := by rw [bl_toList, bl_toList]; exact beqF hq
          have HN2 := Lib.hid (HN.out (.inr hq))
          generalize bl (dtD d) = T at *
          have HR4 := Lib.hid hR4
          have HE4 := Lib.hid hE4
          clear hR4 hE4 HN HE HR HB hq hl0 e0 e1 e2 e3 hb4
          go_wp2_with fail
          go_roundw
          case rel => exact ⟨k + 1, by omega, by go_num, HR4.out, hB4, HE4.out, HN2.out⟩
          case measure => simp [intOf]; omega
    · obtain rfl : k = 2 := by omega
      have HV : Hid (rdV l = ((0, 0, 0, []), false)) := Lib.hid (rdV_cands (fun d hd => by
        obtain ⟨j, hj, he⟩ := List.getElem_of_mem hd
        exact hno j (by omega) d (by rw [List.getElem?_eq_getElem hj, he])))
      have hend := (((hB.setCell (p := ⟨w.heap.size, 0, none⟩) (Nat.le_refl _) (.int .i64 0)).setCell (p := ⟨w.heap.size, 1, none⟩) (Nat.le_refl _) (.int .i64 0)).setCell (p := ⟨w.heap.size, 2, none⟩) (Nat.le_refl _) (.int .i64 0)).setCell (p := ⟨w.heap.size, 3, none⟩) (Nat.le_refl _) (.string ⟨#[]⟩)
      have HT := Lib.hid (hR.set 0 0 0 ⟨#[]⟩)
      have HEn := Lib.hid hend
      obtain ⟨⟨_, r0, r1, r2, r3⟩, g0, g1, g2, g3⟩ := id hR
      clear hend hR hE hB hno
      go_wp2_with fail
      (try simp only [Exit.inBlock, Exit.then])
      refine bodyPost_ret (v := .tuple #[.agg #[.int .i64 0, .int .i64 0, .int .i64 0, .string ⟨#[]⟩], .bool false]) ?_ rfl ⟨by rw [HV.out]; rfl, HEn.out⟩
      exact Eq.trans (results_four_tmp (p := 2) (r := 3) rfl _ _ w.heap.size _ _ _ _ _ rfl HT.out.1.2 Tryz.underlying55 rfl deed_size) rfl
theorem sReadDeed_c (l : List UInt8) (w : World) (hl : l.length ≤ 2000000) :
    Calls Tryz.prog 48 #[.string (bl l)] w (RdOut (rdV l) w) := by
  by_cases h2 : (spl 32 l).length = 2
  · exact srd_two l w hl h2
  · by_cases h3 : (spl 32 l).length = 3
    · exact srd_three l w hl h3
    · exact srd_else l w hl h2 h3
end Go.Proofs.YtoinlkdmfclnbaaGreatDoor
