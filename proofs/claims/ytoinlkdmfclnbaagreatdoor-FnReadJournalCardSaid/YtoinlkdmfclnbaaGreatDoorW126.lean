/- Walks: ReadJournal of the reference and of the program. -/
import Derived.Test.YtoinlkdmfclnbaaGreatDoorW119
namespace Go.Proofs.YtoinlkdmfclnbaaGreatDoor
set_option linter.unusedVariables false
open Go.RowKit

def JrOut (l : List UInt8) (w : World) (e : Ending) (w' : World) : Prop :=
  ∃ A c, e = .returned (.tuple #[.slice A (rj l).1.length c, .int .i64 ((rj l).2 : Int)]) ∧ OwnE w' w.heap.size w'.heap.size A (rj l).1.length c ((rj l).1.map toDd) ∧ Below w.heap.size w w'
theorem OwnW.slice_m {w : World} {B : Nat} {v : Value} {us : List Dl} (h : OwnW w B v (us.map toDd)) : ∃ A c, v = .slice A us.length c ∧ OwnE w B w.heap.size A us.length c (us.map toDd) := by
  obtain ⟨A, c, e, hE⟩ := h.slice_
  rw [List.length_map] at e hE
  exact ⟨A, c, e, hE⟩
theorem OwnW.nil_ (w : World) (B : Nat) : OwnW w B (.slice none 0 0) [] := World.ownsRow_nil _ _ _ _
theorem rd_ex (r : Dl × Bool) : ∃ kd a b x ok, r = ((kd, a, b, x), ok) := ⟨_, _, _, _, _, rfl⟩
set_option maxRecDepth 100000 in
set_option maxHeartbeats 1600000 in
theorem sReadJournal_c (l : List UInt8) (w : World) (hsz : l.length ≤ 1100000) :
    Calls Tryz.prog 32 #[.string (bl l)] w (JrOut l w) := by
  have hls : (bl l).size = l.length := bl_size l
  have hidx := fun k W (hk : k < l.length) => idx_bl l k W hk
  have hO0 := OwnW.made w w.heap.size (Nat.le_refl _)
  have hb0 := below_new w (Obj.cells #[] 55)
  go_enter Tryz.func32, Tryz.ntmps32
  go_wp2_with fail
  generalize w.alloc (Obj.cells #[] 55) = w0 at *
  go_loopw [4, 5, 6] (fun o f i wr => ∃ (k fr : Nat) (us : List Dl), k ≤ l.length ∧ fr ≤ k ∧ us.length ≤ k ∧ i = .int .i64 (k : Int) ∧ f = .int .i64 (fr : Int) ∧ OwnW wr w.heap.size o (us.map toDd) ∧ rj l = (us ++ (rj (l.drop fr)).1, fr + (rj (l.drop fr)).2) ∧ 10 ∉ (l.drop fr).take (k - fr) ∧ Below w.heap.size w wr) (fun _ _ i _ => l.length - (intOf i).toNat)
  case atStart => exact ⟨0, 0, [], Nat.zero_le _, Nat.le_refl _, Nat.le_refl _, rfl, rfl, hO0, by simp, by simp, hb0⟩
  case round =>
    clear hO0 hb0
    obtain ⟨k, fr, us, hk, hfk, hul, rfl, rfl, hown, hrj, hno, hbw⟩ := hrel
    have hs := hbw.size
    by_cases hlt : k < l.length
    · have hik := hidx k wr hlt
      have hgk : l[k]? = some (l.getD k 0) := by simp [List.getD, List.getElem?_eq_getElem hlt]
      have hdk : (l.drop fr)[k - fr]? = some (l.getD k 0) := by rw [List.getElem?_drop, show fr + (k - fr) = k by omega]; exact hgk
      have hts : (l.drop fr).take (k - fr + 1) = (l.drop fr).take (k - fr) ++ [l.getD k 0] := by rw [List.take_add_one, hdk]; rfl
      by_cases hc : l.getD k 0 = 10
      · have hdr : l.drop fr = (l.drop fr).take (k - fr) ++ 10 :: l.drop (k + 1) := by
          conv => lhs; rw [← List.take_append_drop (k - fr) (l.drop fr)]
          rw [List.drop_drop, show fr + (k - fr) = k by omega]
          congr 1
          rw [List.drop_eq_getElem_cons hlt, ← hc]
          simp [List.getD, List.getElem?_eq_getElem hlt]
        have hex : (bl l).extract fr k = bl ((l.drop fr).take (k - fr)) := sub_bl l fr k
        have hlu : ((l.drop fr).take (k - fr)).length = k - fr := by rw [List.length_take, List.length_drop]; omega
        have K1 := sReadDeed_c ((l.drop fr).take (k - fr)) wr (by omega)
        have hik' : (Instr.index 9 (.string (bl l)) (.int .i64 (k : Int))).run Tryz.prog wr = .ok (.int .u8 10) wr := by rw [hc] at hik; exact hik
        have h1 : (0 : Int) ≤ (fr : Int) := Int.natCast_nonneg _
        have h2 : (fr : Int) ≤ (k : Int) := by omega
        have h3 : (k : Int) ≤ (l.length : Int) := by omega
        obtain ⟨kd, a, b, x, ok, hr⟩ := rd_ex (rdV ((l.drop fr).take (k - fr)))
        rw [hr] at K1
        unfold RdOut at K1
        simp only at K1
        rcases ok with _ | _
        · have HJ : Hid (rj l = (us, fr)) := Lib.hid (by
            rw [hrj]
            have h9 : rj (l.drop fr) = ([], 0) := by rw [hdr]; exact rj_bad _ hno (by rw [hr])
            rw [h9]; simp)
          have HO := Lib.hid hown
          clear hrj hno hdk hgk hts hc hdr hidx hik hr hlu hown
          go_wp2_with fail
          refine K1.mono ?_
          rintro e w2 ⟨rfl, hb2⟩
          have hbA := below_new w2 (.cells #[.int .i64 kd, .int .i64 a, .int .i64 b, .string (bl x)] 55)
          have hO2 := (HO.out.up hb2).up hbA
          have hB2 := bt (bt hbw hb2) hbA
          obtain ⟨A3, c3, rfl, hE3⟩ := hO2.slice_m
          clear hb2 hbA hO2 hbw K1
          go_wp2_with fail
          go_ret2
          unfold JrOut
          rw [HJ.out]
          exact ⟨A3, c3, rfl, hE3, hB2⟩
        · have HJ : Hid (rj l = ((us ++ [(kd, a, b, x)]) ++ (rj (l.drop (k + 1))).1, (k + 1) + (rj (l.drop (k + 1))).2)) := Lib.hid (by
            rw [hrj]
            have h9 : rj (l.drop fr) = ((kd, a, b, x) :: (rj (l.drop (k + 1))).1, (k - fr) + 1 + (rj (l.drop (k + 1))).2) := by
              conv => lhs; rw [hdr]
              rw [rj_more _ hno (by rw [hr]), hr, hlu]
            rw [h9]
            simp only [List.append_assoc, List.singleton_append, Prod.mk.injEq, true_and]
            omega)
          have HO := Lib.hid hown
          have hlen : us.length ≤ 1000000000 := by omega
          clear hrj hno hdk hgk hts hc hdr hidx hik hr hlu hown
          go_wp2_with fail
          refine K1.mono ?_
          rintro e w2 ⟨rfl, hb2⟩
          have hbA := below_new w2 (.cells #[.int .i64 kd, .int .i64 a, .int .i64 b, .string (bl x)] 55)
          have hF3 := Four.made w2 55 kd a b (bl x)
          have hO3 := (HO.out.up hb2).up hbA
          have hB3 := bt (bt hbw hb2) hbA
          have hz3 := hB3.size
          obtain ⟨_, f0, f1, f2, f3⟩ := id hF3
          have HB3 := Lib.hid hB3
          clear hb2 hbA hbw K1 hF3 HO hB3
          go_wp2_with (at_builtin; refine app_deed _ (kd, a, b, bl x) rfl _ _ rfl w.heap.size _ (us.map toDd) rfl hO3 (by rw [World.size_alloc]; rfl) (by rw [List.length_map]; omega) hz3 ?_; intro v' w4 hown4 hb4)
          go_roundw
          case rel => exact ⟨k + 1, k + 1, us ++ [(kd, a, b, x)], by omega, by omega, by rw [List.length_append]; exact Nat.add_le_add hul (Nat.le_refl _), by go_num, by go_num, by rw [List.map_append]; exact hown4, HJ.out, by simp, HB3.out.trans hb4⟩
          case measure => simp [intOf]; omega
      · have hq : (((l.getD k 0).toNat : Int) == 10) = false := by
          rw [beq_eq_false_iff_ne]
          intro h9
          exact hc (UInt8.toNat_inj.1 (by have : (10 : UInt8).toNat = 10 := rfl; omega))
        have HN : Hid (10 ∉ (l.drop fr).take (k + 1 - fr)) := Lib.hid (by
          rw [show k + 1 - fr = k - fr + 1 by omega, hts, List.mem_append, List.mem_singleton, not_or]
          exact ⟨hno, fun h9 => hc h9.symm⟩)
        have HS := Lib.hid hrj
        generalize ((l.getD k 0).toNat : Int) = y at *
        clear hrj hno hdk hgk hts hc hidx
        go_wp2_with fail
        go_roundw
        case rel => exact ⟨k + 1, fr, us, by omega, by omega, by omega, by go_num, rfl, hown, HS.out, HN.out, hbw⟩
        case measure => simp [intOf]; omega
    · obtain rfl : k = l.length := by omega
      have hno2 : 10 ∉ l.drop fr := by rw [List.take_of_length_le (by rw [List.length_drop]; omega)] at hno; exact hno
      have HJ : Hid (rj l = (us, fr)) := Lib.hid (by rw [hrj, rj_none hno2]; simp)
      obtain ⟨A3, c3, rfl, hE3⟩ := hown.slice_m
      clear hrj hno hno2 hown hidx
      go_wp2_with fail
      go_ret2
      unfold JrOut
      rw [HJ.out]
      exact ⟨A3, c3, rfl, hE3, hbw⟩
set_option maxRecDepth 100000 in
set_option maxHeartbeats 1600000 in
theorem readJournal_c (l : List UInt8) (w : World) (hsz : l.length ≤ 1100000) (hg : Glo w) :
    Calls Tryz.prog 31 #[.string (bl l)] w (JrOut l w) := by
  have hls : (bl l).size = l.length := bl_size l
  go_enter Tryz.func31, Tryz.ntmps31
  go_wp2_with fail
  go_loopw [4, 5] (fun o f wr => ∃ (fr : Nat) (us : List Dl), fr ≤ l.length ∧ us.length ≤ fr ∧ f = .int .i64 (fr : Int) ∧ OwnW wr w.heap.size o (us.map toDd) ∧ rj l = (us ++ (rj (l.drop fr)).1, fr + (rj (l.drop fr)).2) ∧ Below w.heap.size w wr) (fun _ f _ => l.length - (intOf f).toNat)
  case atStart => exact ⟨0, [], Nat.zero_le _, Nat.le_refl _, rfl, OwnW.nil_ _ _, by simp, Below.refl _ _⟩
  case round =>
    obtain ⟨fr, us, hfr, hul, rfl, hown, hrj, hbw⟩ := hrel
    have hs := hbw.size
    have hgw := hg.up hbw
    obtain ⟨mm, hm⟩ := hgw.max
    have hdl : (l.drop fr).length = l.length - fr := List.length_drop
    have K1 := strings_Cut (bl (l.drop fr)) ⟨#[10]⟩ mm wr (by rw [bl_size]; omega) hm
    rw [bl_list] at K1
    have hex : (bl l).extract fr l.length = bl (l.drop fr) := by rw [sub_bl, List.take_of_length_le (by omega)]
    have h1 : (0 : Int) ≤ (fr : Int) := Int.natCast_nonneg _
    have h2 : (fr : Int) ≤ (l.length : Int) := by omega
    rcases spl_any 10 (l.drop fr) with ⟨hno, _, hcut⟩ | ⟨u, v, hno, hdr, _, hcut⟩
    · rw [show (⟨#[10]⟩ : ByteArray).data.toList = [10] from rfl, hcut] at K1
      simp only at K1
      have HJ : Hid (rj l = (us, fr)) := Lib.hid (by rw [hrj, rj_none hno]; simp)
      have HO := Lib.hid hown
      clear hrj hno hcut hown hm hgw
      go_wp2_with fail
      refine K1.mono ?_
      rintro e w2 ⟨rfl, nd, rfl⟩
      have hO2 := HO.out.dn nd
      obtain ⟨A3, c3, rfl, hE3⟩ := hO2.slice_m
      have hB2 := bd hbw nd
      clear HO hO2 hbw K1
      go_wp2_with fail
      go_ret2
      unfold JrOut
      rw [HJ.out]
      exact ⟨A3, c3, rfl, hE3, hB2⟩
    · rw [show (⟨#[10]⟩ : ByteArray).data.toList = [10] from rfl, hcut] at K1
      simp only at K1
      have hlu : u.length + 1 + v.length = l.length - fr := by rw [← hdl, hdr, spl_len]
      have hdv : l.drop (fr + u.length + 1) = v := by
        rw [show fr + u.length + 1 = fr + (u.length + 1) by omega, ← List.drop_drop, hdr]
        simp
      have K2 := fun W (h : Glo W) => readDeed_c (bl u) W (by rw [bl_size]; omega) h
      rw [bl_list] at K2
      obtain ⟨kd, a, b, x, ok, hr⟩ := rd_ex (rdV u)
      rw [hr] at K2
      unfold RdOut at K2
      simp only at K2
      have hus : (bl u).size = u.length := bl_size u
      rcases ok with _ | _
      · have HJ : Hid (rj l = (us, fr)) := Lib.hid (by
          rw [hrj]
          have h9 : rj (l.drop fr) = ([], 0) := by rw [hdr]; exact rj_bad _ hno (by rw [hr])
          rw [h9]; simp)
        have HO := Lib.hid hown
        clear hrj hno hcut hdr hdv hr hown hm hgw
        go_wp2_with fail
        refine K1.mono ?_
        rintro e w2 ⟨rfl, nd, rfl⟩
        have hB2 := bd hbw nd
        have hO2 := HO.out.dn nd
        have hg2 := hg.up hB2
        clear K1
        go_wp2_with fail
        refine (K2 _ hg2).mono ?_
        rintro e w3 ⟨rfl, hb3⟩
        have hbA := below_new w3 (.cells #[.int .i64 kd, .int .i64 a, .int .i64 b, .string (bl x)] 55)
        have hO3 := (hO2.up hb3).up hbA
        have hB3 := bt (bt hB2 hb3) hbA
        obtain ⟨A3, c3, rfl, hE3⟩ := hO3.slice_m
        clear K2 hb3 hbA hO3 hO2 hB2 HO hg2
        go_wp2_with fail
        go_ret2
        unfold JrOut
        rw [HJ.out]
        exact ⟨A3, c3, rfl, hE3, hB3⟩
      · have HJ : Hid (rj l = ((us ++ [(kd, a, b, x)]) ++ (rj (l.drop (fr + u.length + 1))).1, (fr + u.length + 1) + (rj (l.drop (fr + u.length + 1))).2)) := Lib.hid (by
          rw [hrj, hdv]
          have h9 : rj (l.drop fr) = ((kd, a, b, x) :: (rj v).1, u.length + 1 + (rj v).2) := by
            rw [hdr, rj_more _ hno (by rw [hr]), hr]
          rw [h9]
          simp only [List.append_assoc, List.singleton_append, Prod.mk.injEq, true_and]
          omega)
        have HO := Lib.hid hown
        clear hrj hno hcut hdr hdv hr hown hm hgw
        go_wp2_with fail
        refine K1.mono ?_
        rintro e w2 ⟨rfl, nd, rfl⟩
        have hB2 := bd hbw nd
        have hO2 := HO.out.dn nd
        have hg2 := hg.up hB2
        clear K1
        go_wp2_with fail
        refine (K2 _ hg2).mono ?_
        rintro e w3 ⟨rfl, hb3⟩
        have hbA := below_new w3 (.cells #[.int .i64 kd, .int .i64 a, .int .i64 b, .string (bl x)] 55)
        have hF3 := Four.made w3 55 kd a b (bl x)
        have hO3 := (hO2.up hb3).up hbA
        have hB3 := bt (bt hB2 hb3) hbA
        have hz3 := hB3.size
        obtain ⟨_, f0, f1, f2, f3⟩ := id hF3
        have HB3 := Lib.hid hB3
        clear K2 hb3 hbA hO2 hB2 HO hg2 hF3 hB3
        go_wp2_with (at_builtin; refine app_deed _ (kd, a, b, bl x) rfl _ _ rfl w.heap.size _ (us.map toDd) rfl hO3 (by rw [World.size_alloc]; rfl) (by rw [List.length_map]; omega) hz3 ?_; intro v' w4 hown4 hb4)
        go_roundw
        case rel => exact ⟨fr + u.length + 1, us ++ [(kd, a, b, x)], by omega, by rw [List.length_append, List.length_singleton]; omega, by go_num, by rw [List.map_append]; exact hown4, HJ.out, HB3.out.trans hb4⟩
        case measure => simp [intOf]; omega
end Go.Proofs.YtoinlkdmfclnbaaGreatDoor
