/- Walks: l20Written, the drawing of deeds for JournalText. · Walks: the drawing of deeds for JournalText; the law FnJournalText. -/
import Derived.Maps.AppendAt
import Derived.Test.YtoinlkdmfclnbaaGreatDoorV18
import Derived.Test.YtoinlkdmfclnbaaGreatDoorW117
import Derived.Test.YtoinlkdmfclnbaaGreatDoorW113
import Derived.Test.YtoinlkdmfclnbaaGreatDoorW127
import Derived.Test.YtoinlkdmfclnbaaGreatDoorW124
namespace Go.Proofs.YtoinlkdmfclnbaaGreatDoor
set_option linter.unusedVariables false
open Go.RowKit

def WrittenO (w : World) (lo g p : Nat) (e : Ending) (w' : World) : Prop :=
  ∃ v ds, e = .returned v ∧ OwnW w' w.heap.size v ds ∧ Shrt ds ∧ ds.length ≤ 5 ∧ (∀ k, k < ds.length → dtD (frDd (dG ds k)) ≠ []) ∧ Rdr w' lo g p ∧ Chg g (g + 1) w w'
theorem dG_snoc_lt {ds : List Dd} {d : Dd} {k : Nat} (h : k < ds.length) : dG (ds ++ [d]) k = dG ds k := by
  unfold dG; simp only [List.getD]; rw [List.getElem?_append_left h]
theorem dG_snoc_at (ds : List Dd) (d : Dd) : dG (ds ++ [d]) ds.length = d := by
  unfold dG; simp only [List.getD]; rw [List.getElem?_append_right (Nat.le_refl _), Nat.sub_self]; rfl
theorem shrt_snoc {ds : List Dd} {d : Dd} (h : Shrt ds) (hd : d.2.2.2.size ≤ 1000000000000) : Shrt (ds ++ [d]) := fun k hk => by
  rw [List.length_append, List.length_singleton] at hk
  unfold dS
  rcases Nat.lt_or_ge k ds.length with h1 | h1
  · rw [dG_snoc_lt h1]; exact h k h1
  · obtain rfl : k = ds.length := by omega
    rw [dG_snoc_at]; exact hd
theorem app_deed_at {ops : Array Oper} {rest : List Oper} {o : Oper} {a : Act} {Q : Exit → Act → World → Prop} (w : World) (d : Dd) (hgd : o.guard = none) (s x : Operand)
    (ho : o.op = .call { callee := .builtin .append, args := #[s, x], argTypes := #[47, 47] })
    (B : Nat) (v : Value) (ds : List Dd) (hs : a.eval s = v) (hown : OwnW w B v ds) (hx : a.eval x = .slice (some ⟨w.heap.size, 0, none⟩) 1 1)
    (hlen : ds.length ≤ 1000000000000) (hB : B ≤ w.heap.size)
    (h : ∀ v' w', OwnW w' B v' (ds ++ [d]) → Below B w w' → (∀ k, k < w.heap.size → v.ownBlock ≠ some k → w'.heap[k]? = w.heap[k]?) → (v'.ownBlock = v.ownBlock ∨ v'.ownBlock = some (w.heap.size + 1)) → w.heap.size ≤ w'.heap.size → wpList Tryz.prog ops Q rest (a.put o.dst v') w') :
    wpList Tryz.prog ops Q (o :: rest) a (w.alloc (.cells #[.int .i64 d.1, .int .i64 d.2.1, .int .i64 d.2.2.1, .string d.2.2.2] 55)) := by
  obtain ⟨i0, hi, hz0, hz1, hz2⟩ := info_parts deed_info
  refine wpList_append_own_at _ hgd s x 47 ho B 55 i0 _ 4 40 Tryz.underlying47 hi hz0 hz1 hz2 rfl (by decide) v ds.length (flatD ds) hs (hown.alloc _) ⟨w.heap.size, 0, none⟩ 1 1 (flatD [d]) hx rfl (fun j u hj => ?_) (by simp [flatD, Value.oneCell']) (by unfold maxLen; omega) (by omega) (by simp; omega) ?_
  · have hj' : j < 4 := by
      have := (List.getElem?_eq_some_iff.1 hj).1
      rw [flatD_len] at this
      simpa using this
    match j, hj' with
    | 0, _ => cases hj; simp [Addr.add]
    | 1, _ => cases hj; simp [Addr.add]
    | 2, _ => cases hj; simp [Addr.add]
    | 3, _ => cases hj; simp [Addr.add]
  intro v' w' hown' hg _ hat
  have hsz := hg.size
  rw [World.size_alloc] at hsz hat
  refine h v' w' ?_ ?_ ?_ hat (by omega)
  · unfold OwnW
    rw [List.length_append, flatD_app]
    exact hown'
  · refine ((Below.refl B w).alloc hB _).grown hg (by simp; omega) (fun k hk => (hown.lt k hk).1)
  · intro k hk hne
    rw [hg.block k (by rw [World.size_alloc]; omega) (fun e => hne e.symm)]
    exact heap_alloc_old w _ hk
set_option maxRecDepth 100000 in
set_option maxHeartbeats 1600000 in
theorem written_c (g lo p : Nat) (w : World) (h : Rdr w lo g p) (hp : p ≤ 5000) :
    Calls Tryz.prog 83 #[.pointer (some ⟨g, 0, none⟩)] w (WrittenO w lo g (p + 30 + 1000)) := by
  have hgl := h.lt
  have hlog := h.lo
  have hO0 := OwnW.made w w.heap.size (Nat.le_refl _)
  have hb0 := below_new w (Obj.cells #[] 55)
  have hc0 := (Chg.refl g (g + 1) w).allocNew (Obj.cells #[] 55)
  have hr0 := h.up hb0
  go_enter Tryz.func83, Tryz.ntmps83
  go_wp2_with fail
  generalize hw0 : w.alloc (Obj.cells #[] 55) = w0 at *
  have hz0 : w.heap.size + 1 = w0.heap.size := by rw [← hw0]; simp
  clear hw0
  refine (map0_c g lo p 7 _ hr0 (by omega) (by omega) (by omega)).mono ?_
  rintro e w1 ⟨A1, n1, c1, xs, rfl, hO1, hn1, hr1, hc1⟩
  have hOA1 := hO0.chg hc1 (by omega)
  have hC1 := hc0.chg_ hc1 (.inr ⟨Nat.le_refl _, Nat.le_refl _⟩)
  have hz1 := hc1.size
  clear hO0 hc0 hr0 hc1 hb0 h
  go_wp2_with fail
  refine (deeds_c g lo (p + 30) n1 c1 A1 xs _ hr1 hO1.rd (fun q hq => by have := (hO1.lt q hq).1; omega) (by omega) (by omega)).mono ?_
  rintro e w2 ⟨A2, n2, c2, es, rfl, hE2, hS2, hn2, hr2, hc2⟩
  have hOA2 := hOA1.chg hc2 (by omega)
  have hC2 := hC1.chg_ hc2 (.inr ⟨Nat.le_refl _, Nat.le_refl _⟩)
  have hz2 := hc2.size
  have hl2 := hE2.len
  have hq0 : ∀ q, (Value.slice (some ⟨w.heap.size, 0, none⟩) 0 0).ownBlock = some q → q = w.heap.size ∨ w2.heap.size ≤ q := fun q hq => by cases hq; exact .inl rfl
  clear hOA1 hC1 hr1 hc2 hO1
  go_wp2_with fail
  go_loopw [3, 5] (fun o i wr => ∃ (k : Nat) (ds : List Dd), k ≤ n2 ∧ i = .int .i64 (k : Int) ∧ ds.length ≤ k ∧ OwnW wr w.heap.size o ds ∧ Shrt ds ∧ (∀ j, j < ds.length → dtD (frDd (dG ds j)) ≠ []) ∧ OwnE wr w1.heap.size w2.heap.size A2 n2 c2 es ∧ (∀ q, o.ownBlock = some q → q = w.heap.size ∨ w2.heap.size ≤ q) ∧ w2.heap.size ≤ wr.heap.size ∧ Rdr wr lo g (p + 30 + 1000) ∧ Chg g (g + 1) w wr) (fun _ i _ => n2 - (intOf i).toNat)
  case atStart => exact ⟨0, [], Nat.zero_le _, rfl, Nat.le_refl _, hOA2, shrt_nil, fun j hj => by simp at hj, hE2, hq0, Nat.le_refl _, hr2, hC2⟩
  case round =>
    clear hOA2 hC2 hr2 hE2 hq0
    obtain ⟨k, ds, hk, rfl, hl, hO, hS, hne, hE9, hq, hz, hr, hc⟩ := hrel
    have hR := hE9.rd
    have hcap := hR.cap
    have hmx := hR.max
    unfold maxLen at hmx
    by_cases hlt : k < n2
    · obtain ⟨b, off, rfl, hbE, e0, e1, e2, e3⟩ := hR.at_ hlt
      have hk0 : (0 : Int) ≤ (k : Int) := Int.natCast_nonneg _
      have hk1 : (k : Int) < (n2 : Int) := by omega
      have hsk := hS2 k (by omega)
      have K1 := fun W => sDeedText_c (dK es k) (dA es k) (dB es k) (dS es k) W hsk
      rw [dtX_at] at K1
      by_cases hE : dtD (frDd (dG es k)) = []
      · rw [hE, show bl [] = (⟨#[]⟩ : ByteArray) from rfl] at K1
        have HO := Lib.hid hO
        have HR := Lib.hid hE9
        have HC := Lib.hid hc
        have HRr := Lib.hid hr
        have HS := Lib.hid hS
        have HNE := Lib.hid hne
        clear hO hR hE9 hc hr hS hne hE
        go_wp2_with fail
        refine (K1 _).mono ?_
        rintro e w3 ⟨rfl, hb3⟩
        have hz3 := hb3.size
        have HO3 := Lib.hid (HO.out.up hb3)
        have HR3 := Lib.hid (HR.out.up hb3)
        have HC3 := Lib.hid (HC.out.up_ hb3)
        have HRr3 := Lib.hid (HRr.out.up hb3)
        clear HO HR HC HRr hb3 e0 e1 e2 e3 K1
        go_wp2_with fail
        go_roundw
        case rel => exact ⟨k + 1, ds, by omega, by go_num, by omega, HO3.out, HS.out, HNE.out, HR3.out, hq, by omega, HRr3.out, HC3.out⟩
        case measure => simp [intOf]; omega
      · have qT : ((bl (dtD (frDd (dG es k)))).toList == []) = false := by rw [bl_toList]; exact beqF hE
        have qU : ¬ (bl (dtD (frDd (dG es k)))).toList = [] := by rw [bl_toList]; exact hE
        have qS : (bl (dtD (frDd (dG es k)))).toList.isEmpty = false := by
          rcases h9 : (bl (dtD (frDd (dG es k)))).toList with _ | _
          · exact absurd h9 qU
          · rfl
        have qV : ((bl (dtD (frDd (dG es k)))).toList != []) = true := by unfold bne; rw [qT]; rfl
        generalize bl (dtD (frDd (dG es k))) = T at *
        have HD : Hid (∀ j, j < (ds ++ [dG es k]).length → dtD (frDd (dG (ds ++ [dG es k]) j)) ≠ []) := Lib.hid (fun j hj => by
          rw [List.length_append, List.length_singleton] at hj
          rcases Nat.lt_or_ge j ds.length with h1 | h1
          · rw [dG_snoc_lt h1]; exact hne j h1
          · obtain rfl : j = ds.length := by omega
            rw [dG_snoc_at]; exact hE)
        have HS1 : Hid (Shrt (ds ++ [dG es k])) := Lib.hid (shrt_snoc hS hsk)
        have HO := Lib.hid hO
        have HR := Lib.hid hE9
        have HC := Lib.hid hc
        have HRr := Lib.hid hr
        clear hO hR hE9 hc hr hS hne hE
        go_wp2_with fail
        refine (K1 _).mono ?_
        rintro e w3 ⟨rfl, hb3⟩
        have hz3 := hb3.size
        have hO3 := HO.out.up hb3
        have HR3 := Lib.hid (HR.out.up hb3)
        have HC3 := Lib.hid (HC.out.up_ hb3)
        have HRr3 := Lib.hid (HRr.out.up hb3)
        have hzw := HC3.out.size
        have f0 := cellUp hb3 e0
        have f1 := cellUp hb3 e1
        have f2 := cellUp hb3 e2
        have f3 := cellUp hb3 e3
        clear HO HR HC HRr hb3 e0 e1 e2 e3 K1
        go_wp2_with (at_builtin; refine app_deed_at w3 (dK es k, dA es k, dB es k, dS es k) rfl _ _ rfl w.heap.size _ ds rfl hO3 rfl (by omega) hzw ?_; intro v' w4 hown4 hb4 hkp4 hat4 hz4)
        go_roundw
        case rel => exact ⟨k + 1, ds ++ [dG es k], by omega, by go_num, by rw [List.length_append]; exact Nat.add_le_add hl (Nat.le_refl _), hown4, HS1.out, HD.out, HR3.out.keep (fun q h1 h2 h3 => hkp4 q h3 (fun e => by have := hq q e; omega)), (fun q e => by rcases hat4 with h9 | h9; (rw [h9] at e; exact hq q e); (rw [h9] at e; cases e; right; omega)), by omega, HRr3.out.below hb4 hgl, HC3.out.then_ hb4⟩
        case measure => simp [intOf]; omega
    · have hkn : k = n2 := by omega
      have HEnd : Hid (WrittenO w lo g (p + 30 + 1000) (.returned u3) wr) := Lib.hid ⟨u3, ds, rfl, hO, hS, by omega, hne, hr, hc⟩
      clear hO hS hne hr hc hR hE9
      go_wp2_with fail
      go_ret
      exact HEnd.out
end Go.Proofs.YtoinlkdmfclnbaaGreatDoor
namespace Go.Proofs.YtoinlkdmfclnbaaGreatDoor
set_option linter.unusedVariables false
open Go.RowKit

def JournalDrawn (w : World) (e : Ending) (w' : World) : Prop :=
  ∃ A c ds, e = .returned (.slice A ds.length c) ∧ RdE w' w'.heap.size A ds.length c ds ∧ Shrt ds ∧ ds.length ≤ 6 ∧ Below w.heap.size w w'
theorem toDd_fr (d : Dd) : toDd (frDd d) = d := by
  obtain ⟨k, a, b, s⟩ := d
  unfold toDd frDd
  simp only [bl_of]
theorem map_fr (ds : List Dd) : (ds.map frDd).map toDd = ds := by
  rw [List.map_map]
  conv => rhs; rw [← List.map_id ds]
  exact List.map_congr_left (fun d _ => toDd_fr d)
end Go.Proofs.YtoinlkdmfclnbaaGreatDoor
