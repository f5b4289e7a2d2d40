/- Walk: LoopText (impl). -/
import Derived.Test.YtnpjelekpkgbpaaW135
namespace Go.Proofs.Ytnpjelekpkgbpaa
set_option linter.unusedVariables false
open Go.RowKit

theorem loopTs_len {f : List Nat} (hf : MapN f) {i : Nat} (hi : i < f.length) : (loopTs f i).length = wl f (lo f i) := by unfold loopTs way; rw [List.length_map, orb_len]
theorem take_succ_ {l : List Tx} {k : Nat} {x : Tx} (h : l[k]? = some x) : l.take (k + 1) = l.take k ++ [x] := by rw [List.take_add_one, h]; rfl
theorem loopTs_at {f : List Nat} {i k : Nat} (hk : k < wl f (lo f i)) : (loopTs f i)[k]? = some (treeT f f.length (it f k (lo f i))) := by
  rw [loopTs_eq, List.getElem?_map, List.getElem?_range hk]; rfl
theorem joinX_len {ts : List Tx} {M : Nat} (h : ∀ t ∈ ts, t.length ≤ M) (hl : ts.length ≤ 7) : (Lib.join ts []).length ≤ 7 * M := by
  rw [join_flat]
  have := flat_len h
  have := Nat.mul_le_mul_right M hl
  omega
theorem loopTs_mem {f : List Nat} (h7 : f.length ≤ 7) {i : Nat} {t : Tx} (h : t ∈ loopTs f i) : t.length ≤ 4782969 := by
  unfold loopTs at h
  rw [List.mem_map] at h
  obtain ⟨j, _, rfl⟩ := h
  have := treeT_len h7 f.length j
  have := nine_le h7
  omega
theorem join_app (a b : List Tx) : Lib.join (a ++ b) [] = Lib.join a [] ++ Lib.join b [] := by rw [join_flat, join_flat, join_flat, List.flatten_append]
theorem RdT.dropO {w : World} {B g off n c k : Nat} {ts : List ByteArray} (h : RdT w B (some ⟨g, off, none⟩) n c ts) (hk : k ≤ n) : RdT w B (some ⟨g, off + k, none⟩) (n - k) (c - k) (ts.drop k) := by
  refine ⟨by rw [List.length_drop, h.1], by have := h.cap; omega, by have := h.max; omega, fun h0 => ?_⟩
  obtain ⟨b, o, e, hb, hc⟩ := h.2.2.2 (by omega)
  cases e
  refine ⟨g, off + k, rfl, hb, fun j hj => ?_⟩
  have := hc (k + j) (by omega)
  rw [Nat.add_assoc, this]; unfold gT; simp [List.getD]
theorem keepB_c (b : Nat) (x y : Tx) (w : World) (h : Boxed w b 9 (.string ⟨y.toArray⟩)) :
    Calls Try.prog 93 #[.string ⟨x.toArray⟩, .pointer (some ⟨b, 0, none⟩)] w fun e w' => e = .returned (.tuple #[]) ∧ Boxed w' b 9 (.string ⟨(if x < y then x else y).toArray⟩) ∧ Below b w w' := by
  refine (keep_c b x y w h.cell h.frozen).mono ?_
  rintro e w' ⟨rfl, rfl⟩
  by_cases hlt : x < y
  · rw [if_pos hlt, if_pos hlt]
    exact ⟨rfl, h.set _, (Below.refl b w).setCell (p := ⟨b, 0, none⟩) (Nat.le_refl _) _⟩
  · rw [if_neg hlt, if_neg hlt]
    exact ⟨rfl, h, Below.refl _ _⟩
theorem first_ {W W' : World} {b : Nat} (h : Below W.drew.heap.size W.drew W') (hb : b < W.heap.size) : Below b W W' := ((Below.refl b W).drew).trans (h.mono (Nat.le_of_lt hb))
theorem rot_str (ts : List Tx) (j : Nat) : (⟨(Lib.join (ts.drop j) []).toArray⟩ ++ ⟨(Lib.join (ts.take j) []).toArray⟩ : ByteArray) = ⟨(rot ts j).toArray⟩ := by
  unfold rot; apply ByteArray.ext; simp
theorem txs_drop (l : List Tx) (k : Nat) : (txs l).drop k = txs (l.drop k) := by unfold txs; rw [List.map_drop]
theorem txs_take (l : List Tx) (k : Nat) : (txs l).take k = txs (l.take k) := by unfold txs; rw [List.map_take]
set_option maxRecDepth 100000 in
set_option maxHeartbeats 1600000 in
theorem loopText_c {f : List Nat} (hf : MapN f) (i : Nat) (hi : i < f.length) (A : Option Addr) (c : Nat) (w : World) (h : Rd w w.heap.size A f.length c (ints f)) :
    Calls Try.prog 81 #[.slice A f.length c, .int .i64 (i : Int)] w (Txt w (loopT f i)) := by
  have hat := atOk_ints hf hi
  have h7 := hf.le7
  have ha := lo_lt hf hi
  have hL : wl f (lo f i) ≤ 7 := Nat.le_trans (wl_le hf ha) h7
  have hLp : 1 ≤ wl f (lo f i) := (wl_isWay hf ha).pos
  have hwi := wayI_ok hf ha
  have HLO := Lib.hid (loopI_ok hf hi)
  have K1 := thingOk_c A f.length c (ints f) (i : Int) w h
  rw [hat] at K1
  go_enter Try.func81, Try.ntmps81
  go_wp2_with (go_at_call 69; refine K1.mono ?_; rintro e w' ⟨rfl, rfl⟩)
  refine (loopOf_c _ _ _ _ _ _ h).mono ?_
  rintro e w1 ⟨rfl, hb1⟩
  rw [HLO.out]
  have hr1 := h.up hb1
  go_wp2_with fail
  refine (wayFrom_c _ _ _ _ _ _ hr1).mono ?_
  rintro e w2 ⟨v, rfl, hO, hb2⟩
  rw [hwi] at hO
  obtain ⟨A2, c2, rfl, hO2⟩ := hO.form
  have hR2 := hO2.rd
  have hl2 : (ints (way f (lo f i))).length = wl f (lo f i) := by rw [ints_len]; unfold way; exact orb_len _ _ _
  rw [hl2] at hR2
  have hr2 := hr1.up hb2
  have hB2 := bt hb1 hb2
  have HT := Lib.hid (loopTs_len hf hi)
  rw [hl2]
  clear hr1 hb1 hb2 hO hO2 hwi K1
  generalize hLL : wl f (lo f i) = L at *
  go_wp2_with fail
  have htl : (loopTs f i).length = L := HT.out
  have hmem := fun (x : Tx) (hx : x ∈ loopTs f i) => loopTs_mem h7 hx
  have hat' := fun k (hk : k < L) => loopTs_at (f := f) (i := i) (k := k) (by rw [hLL]; exact hk)
  have hil := fun k => it_lt hf ha k
  have hw2 := hB2.size
  have HLT : Hid (loopT f i = minK (loopTs f i) L) := by unfold Hid loopT; rw [htl]
  have hwy : ∀ k, k < L → gI (ints (way f (lo f i))) k = (it f k (lo f i) : Int) := fun k hk => by
    rw [gI_ints, nx_get (by unfold way; rw [orb_len, hLL]; exact hk)]
    exact congrArg (fun z : Nat => (z : Int)) (orb_get _)
  generalize loopTs f i = ts at *
  clear hat
  go_loopw [5, 21] (fun v i' wr => ∃ k : Nat, k ≤ L ∧ i' = .int .i64 k ∧ OwnS wr w2.heap.size v (txs (ts.take k)) ∧ Below w2.heap.size w2 wr) (fun _ i' _ => L - (intOf i').toNat)
  case atStart => exact ⟨0, Nat.zero_le _, rfl, by rw [List.take_zero]; exact OwnS.nil_ _ _, Below.refl _ _⟩
  case round =>
    obtain ⟨k, hk, rfl, hown, hbw⟩ := hrel
    by_cases hlt : k < L
    · have hR := hR2.up hbw
      have hrd := hr2.up hbw
      obtain ⟨b, off, rfl, hbb, hcell⟩ := hR.at_ hlt
      rw [hwy k hlt] at hcell
      have HS := Lib.hid (take_succ_ (hat' k hlt))
      have hxl := hil k
      generalize it f k (lo f i) = x at *
      have KT := fun (W' : World) (hr : Rd W' W'.heap.size A f.length c (ints f)) => treeText_c hf f.length x h7 hxl (Nat.le_add_left _ _) A c W' hr
      clear hwy hat' hil
      go_wp2_with fail
      refine (KT _ hrd).mono ?_
      rintro e w3 ⟨rfl, hb3⟩
      have hown3 := hown.up hb3
      have hbw3 := bt hbw hb3
      have hz3 := hbw3.size
      clear hown hR hrd hcell hbw hb3 KT
      go_wp2_with (at_builtin; refine app_text w3 ⟨(treeT f f.length x).toArray⟩ rfl _ _ rfl w2.heap.size _ (txs (ts.take k)) rfl hown3 rfl (by rw [txs_len, List.length_take]; omega) (by omega) ?_; intro v' w4 hown4 hb4)
      go_roundw
      case rel => exact ⟨k + 1, by omega, by go_num, by rw [HS.out, txs_app]; exact hown4, hbw3.trans hb4⟩
      case measure => simp [intOf]; omega
    · obtain rfl : k = L := by omega
      rw [List.take_of_length_le (by omega)] at hown
      obtain ⟨A5, c5, rfl, hR5⟩ := hown.slice_
      have hrd := hr2.up hbw
      have hBw := hB2.trans (hbw.mono hw2)
      have hn := txs_len ts
      rw [htl] at hn
      rw [hn] at hR5 ⊢
      clear hown hR2 hr2 hbw hwy hat' hil
      go_wp2_with fail
      refine (join_c A5 _ c5 ts ⟨#[]⟩ _ hR5 (by omega) (by have := joinX_len hmem (by omega); show (Lib.join ts []).length ≤ _; omega)).mono ?_
      rintro e w5 ⟨rfl, hb5⟩
      have hR6 := (hR5.up hb5).below (show Below w5.heap.size w5 (w5.alloc (.cells #[.string ⟨(Lib.join ts []).toArray⟩] 9)) from (Below.refl _ _).alloc (Nat.le_refl _) _)
      have hB6 := (hBw.trans (hb5.mono (by have := hBw.size; omega))).alloc (by have := hBw.size; have := hb5.size; omega) (.cells #[.string ⟨(Lib.join ts []).toArray⟩] 9)
      have hC6 : (w5.alloc (.cells #[.string ⟨(Lib.join ts []).toArray⟩] 9)).heap[w5.heap.size]? = some (.cells #[.string ⟨(Lib.join ts []).toArray⟩] 9 (0, 0)) := heap_alloc_new _ _
      have hw5 : w.heap.size ≤ w5.heap.size := by have := hBw.size; have := hb5.size; omega
      clear hR5 hb5 hBw
      go_wp2_with fail
      generalize w5.alloc (.cells #[.string ⟨(Lib.join ts []).toArray⟩] 9) = w6 at *
      have bX6 : Boxed w6 w5.heap.size 9 (.string ⟨(Lib.join ts []).toArray⟩) := hC6
      have hw6 := bX6.lt
      have hcp5 := hR6.cap
      have hmx5 := hR6.max
      unfold maxLen at hmx5
      go_loopw [37] (fun i' wr => ∃ j : Nat, j ≤ k ∧ i' = .int .i64 j ∧ Boxed wr w5.heap.size 9 (.string ⟨(minK ts j).toArray⟩) ∧ Below w5.heap.size w6 wr) (fun i' _ => k - (intOf i').toNat)
      case atStart => exact ⟨0, Nat.zero_le _, rfl, bX6, Below.refl _ _⟩
      case round =>
        obtain ⟨j, hj, rfl, hX, hbx⟩ := hrel
        have hcX := hX.cell
        have hfX := hX.frozen
        by_cases hlt : j < k
        · have hRr := hR6.below hbx
          obtain ⟨g, off, rfl, hg, -⟩ := hRr.at_ (k := 0) (by omega)
          have hD := hRr.dropO (k := j) (by omega)
          have hT := hRr.take_ (k := j) (by omega)
          rw [txs_drop] at hD
          rw [txs_take] at hT
          have hsz := hX.lt
          have hJD : (Lib.join (ts.drop j) []).length ≤ 7 * 4782969 := joinX_len (fun x hx => hmem x (List.mem_of_mem_drop hx)) (by rw [List.length_drop]; omega)
          have hJT : (Lib.join (ts.take j) []).length ≤ 7 * 4782969 := joinX_len (fun x hx => hmem x (List.mem_of_mem_take hx)) (by rw [List.length_take]; omega)
          have hcat := rot_str ts j
          have hsum : ¬ (9223372036854775807 < (⟨(Lib.join (ts.drop j) []).toArray⟩ : ByteArray).size + (⟨(Lib.join (ts.take j) []).toArray⟩ : ByteArray).size) := by
            show ¬ (9223372036854775807 < (Lib.join (ts.drop j) []).toArray.size + (Lib.join (ts.take j) []).toArray.size)
            rw [List.size_toArray, List.size_toArray]; omega
          have HD := Lib.hid (fun (W : World) (hb : Below wr.drew.heap.size wr.drew W) => (show RdT W W.heap.size (some ⟨g, off + j, none⟩) (k - j) (c5 - j) (txs (ts.drop j)) from ((show RdT wr.drew w5.heap.size _ _ _ _ from hD).below (hb.mono (show w5.heap.size ≤ wr.heap.size by omega))).more (by have := hb.size; have h9 : wr.heap.size ≤ W.heap.size := this; omega)))
          have HT2 := Lib.hid (fun (W : World) (hb : Below wr.drew.heap.size wr.drew W) => (show RdT W W.heap.size (some ⟨g, off, none⟩) j c5 (txs (ts.take j)) from ((show RdT wr.drew w5.heap.size _ _ _ _ from hT).below (hb.mono (show w5.heap.size ≤ wr.heap.size by omega))).more (by have := hb.size; have h9 : wr.heap.size ≤ W.heap.size := this; omega)))
          have HXW := Lib.hid (fun (W : World) (hb : Below wr.drew.heap.size wr.drew W) => (show Boxed W w5.heap.size 9 (.string ⟨(minK ts j).toArray⟩) from (hb.block _ (show _ < wr.drew.heap.size from hsz)).trans hX))
          have hj5 : j ≤ c5 := by omega
          have hj5n : ¬ c5 = j := by omega
          have hj5i : (j : Int) ≤ (c5 : Int) := by omega
          have hjki : (j : Int) ≤ (k : Int) := by omega
          have HBX := Lib.hid hbx
          have HSZ := Lib.hid hsz
          clear hD hT hRr hX hbx hsz hcX hfX hmem HLT hB6 hR6 bX6
          go_upto_region 14 with fail
          go_region_with (first
              | (go_at_call 82; with_reducible refine (join_c (some ⟨g, off + j, none⟩) (k - j) (c5 - j) (ts.drop j) ⟨#[]⟩ _ ?_ ?_ ?_).mono ?_; (first | exact HD.out _ (Below.refl _ _) | exact HD.out _ hbt); (omega); (exact Nat.le_trans hJD (by omega)); rintro e wd ⟨rfl, hbd⟩; (try have hbd2 := hbt.trans (hbd.mono hbt.size)))
              | (go_at_call 82; with_reducible refine (join_c (some ⟨g, off, none⟩) j c5 (ts.take j) ⟨#[]⟩ _ ?_ ?_ ?_).mono ?_; (first | exact HT2.out _ (Below.refl _ _) | exact HT2.out _ hbd); (omega); (exact Nat.le_trans hJT (by omega)); rintro e wt ⟨rfl, hbt⟩; (try have hbt2 := hbd.trans (hbt.mono hbd.size)))
              | (go_at_call 93; refine (keepB_c w5.heap.size (rot ts j) (minK ts j) _ (by first | exact HXW.out _ hbd2 | exact HXW.out _ hbt2)).mono ?_; rintro e w8 ⟨rfl, hX8, hb8⟩))
          all_goals
            go_wp2_with fail
            go_roundw
            case rel => exact ⟨j + 1, by omega, by go_num, hX8, HBX.out.trans ((first_ (by first | exact hbd2 | exact hbt2) HSZ.out).trans hb8)⟩
            case measure => simp [intOf]; omega
        · obtain rfl : j = k := by omega
          go_wp2_with fail
          go_ret
          exact ⟨by rw [HLT.out]; rfl, hB6.trans (hbx.mono hw5)⟩
end Go.Proofs.Ytnpjelekpkgbpaa
