/- Walks: ShapeText, SameShape (impl). -/
import Derived.Test.YtnpjelekpkgbpaaW136
import Derived.Test.YtnpjelekpkgbpaaV6
namespace Go.Proofs.Ytnpjelekpkgbpaa
set_option linter.unusedVariables false
open Go.RowKit

theorem loops_rows (f : List Nat) : ∀ K, loopsK f K = (repsN f K).map (fun k => ints (way f k))
  | 0 => rfl
  | K + 1 => by
    have ih := loops_rows f K
    unfold repsN at ih ⊢
    rw [List.range_succ, List.filter_append, List.map_append, ← ih]
    by_cases h : lo f K = K
    · rw [loopsK_t h]; simp [h]
    · rw [loopsK_f h]; simp [h]
theorem reps_len (f : List Nat) (K : Nat) : (repsN f K).length ≤ K := by
  have := List.length_filter_le (fun k => decide (lo f k = k)) (List.range K)
  rw [List.length_range] at this
  exact this
theorem loops_at {f : List Nat} (hf : MapN f) {m : Nat} (hm : m < (repsN f f.length).length) : ∃ r, (repsN f f.length)[m]? = some r ∧ r < f.length ∧ gR (loopsN f) m = ints (way f r) := by
  have hr : (repsN f f.length)[m]? = some ((repsN f f.length)[m]) := List.getElem?_eq_getElem hm
  refine ⟨_, hr, ?_, ?_⟩
  · have := List.getElem_mem hm
    unfold repsN at this
    rw [List.mem_filter, List.mem_range] at this
    exact this.1
  · unfold loopsN
    rw [loops_rows]
    unfold gR
    simp [List.getD, hr]
theorem loopT_len {f : List Nat} (hf : MapN f) {i : Nat} (hi : i < f.length) : (loopT f i).length ≤ 14 * 4782969 := by
  have hL : (loopTs f i).length ≤ 7 := by rw [loopTs_len hf hi]; exact Nat.le_trans (wl_le hf (lo_lt hf hi)) hf.le7
  obtain ⟨j, h1, _⟩ := minK_at (loopTs f i) (loopTs f i).length
  unfold loopT
  rw [h1]
  unfold rot
  rw [List.length_append]
  have hd := joinX_len (ts := (loopTs f i).drop j) (M := 4782969) (fun t ht => loopTs_mem hf.le7 (List.mem_of_mem_drop ht)) (by rw [List.length_drop]; omega)
  have ht := joinX_len (ts := (loopTs f i).take j) (M := 4782969) (fun t ht => loopTs_mem hf.le7 (List.mem_of_mem_take ht)) (by rw [List.length_take]; omega)
  omega
theorem joinP_len {ts : List Tx} {M : Nat} (h : ∀ t ∈ ts, t.length ≤ M) (hl : ts.length ≤ 7) : (Lib.join ts [43]).length ≤ 7 * M + 7 := by
  cases ts with
  | nil => simp [Lib.join_nil]
  | cons x r =>
    rw [Lib.join_length]
    have e : Lib.lens (x :: r) = (x :: r).flatten.length := by
      have := Lib.join_length x r []
      rw [join_flat] at this
      simp at this
      simp [this]
    rw [e]
    have h1 := flat_len h
    have h2 := Nat.mul_le_mul_right M hl
    have h3 : ([43] : List UInt8).length * r.length = r.length := by simp
    rw [h3]
    simp only [List.length_cons] at hl h1 h2 ⊢
    omega
set_option maxRecDepth 100000 in
set_option maxHeartbeats 1600000 in
theorem shapeText_c {f : List Nat} (hf : MapN f) (A : Option Addr) (c : Nat) (w : World) (h : Rd w w.heap.size A f.length c (ints f)) :
    Calls Try.prog 63 #[.slice A f.length c] w (Txt w (shapeT f)) := by
  have h7 := hf.le7
  have hRn := reps_len f f.length
  have hll : (loopsN f).length = (repsN f f.length).length := by unfold loopsN; rw [loops_rows, List.length_map]
  have hat := fun m (hm : m < (repsN f f.length).length) => loops_at hf hm
  have HS : Hid (shapeT f = Lib.join (srt ((repsN f f.length).map (loopT f))) [43]) := rfl
  have hlt : ∀ t ∈ (repsN f f.length).map (loopT f), t.length ≤ 14 * 4782969 := fun t ht => by
    rw [List.mem_map] at ht
    obtain ⟨r, hr, rfl⟩ := ht
    unfold repsN at hr
    rw [List.mem_filter, List.mem_range] at hr
    exact loopT_len hf hr.1
  go_enter Try.func63, Try.ntmps63
  go_wp2_with fail
  refine (loopsOf_c _ _ _ _ _ h).mono ?_
  rintro e w1 ⟨v, rfl, hO, hb1⟩
  rw [loopsI_ok hf] at hO
  obtain ⟨A1, c1, rfl, hR1⟩ := hO.form
  have hr1 := h.up hb1
  have hw1 := hb1.size
  clear hO
  rw [hll] at hR1 ⊢
  have hcp := hR1.cap
  have hmx := hR1.max
  unfold maxLen at hmx
  generalize hrr : repsN f f.length = rs at *
  go_wp2_with fail
  go_loopw [3, 9] (fun v i' wr => ∃ k : Nat, k ≤ rs.length ∧ i' = .int .i64 k ∧ (OwnS wr w1.heap.size v (txs ((rs.map (loopT f)).take k)) ∧ (k = 0 → v = .slice none 0 0)) ∧ Below w1.heap.size w1 wr) (fun _ i' _ => rs.length - (intOf i').toNat)
  case atStart => exact ⟨0, Nat.zero_le _, rfl, ⟨by rw [List.take_zero]; exact OwnS.nil_ _ _, fun _ => rfl⟩, Below.refl _ _⟩
  case round =>
    obtain ⟨k, hk, rfl, ⟨hown, hnil⟩, hbw⟩ := hrel
    by_cases hltk : k < rs.length
    · have hR := hR1.up hbw
      have hrd := hr1.up hbw
      obtain ⟨r, hr, hrf, hgr⟩ := hat k hltk
      obtain ⟨b, off, A', n', c', rfl, hbb, hcell, hrow⟩ := hR.at_ hltk
      rw [hgr] at hrow
      have hwl : 1 ≤ (way f r).length := by unfold way; rw [orb_len]; exact (wl_isWay hf hrf).pos
      have hn' : (ints (way f r)).length = n' := hrow.len
      rw [ints_len] at hn'
      obtain ⟨b2, off2, rfl, hbb2, hcell2⟩ := hrow.at_ (k := 0) (by omega)
      have e0 : gI (ints (way f r)) 0 = (r : Int) := by
        rw [gI_ints, nx_get (by omega)]
        exact congrArg (fun z : Nat => (z : Int)) (orb_get _)
      rw [e0] at hcell2
      rw [Nat.add_zero] at hcell2
      have hpos : (0 : Int) < (n' : Int) := by omega
      have HT := Lib.hid (take_succ_ (l := rs.map (loopT f)) (k := k) (x := loopT f r) (by rw [List.getElem?_map, hr]; rfl))
      clear hat hrow hR
      go_wp2_with fail
      refine (loopText_c hf r hrf A c _ hrd).mono ?_
      rintro e w3 ⟨rfl, hb3⟩
      have hown3 := hown.up hb3
      have hbw3 := bt hbw hb3
      have hz3 := hbw3.size
      clear hown hrd hcell hcell2 hbw hb3 hnil
      go_wp2_with (at_builtin; refine app_text w3 ⟨(loopT f r).toArray⟩ rfl _ _ rfl w1.heap.size _ (txs ((rs.map (loopT f)).take k)) rfl hown3 rfl (by rw [txs_len, List.length_take]; omega) (by omega) ?_; intro v' w4 hown4 hb4)
      go_roundw
      case rel => exact ⟨k + 1, by omega, by go_num, ⟨by rw [HT.out, txs_app]; exact hown4, fun h0 => by omega⟩, hbw3.trans hb4⟩
      case measure => simp [intOf]; omega
    · obtain rfl : k = rs.length := by omega
      rw [List.take_of_length_le (by rw [List.length_map]; exact Nat.le_refl _)] at hown
      obtain ⟨A5, c5, rfl, hR5⟩ := hown.slice_
      have hn5 : (txs (rs.map (loopT f))).length = rs.length := by rw [txs_len, List.length_map]
      rw [hn5] at hR5 hnil ⊢
      have hz5 : rs.length = 0 → A5 = none ∧ c5 = 0 := fun h0 => by
        have := hnil h0
        injection this with q1 _ q2
        exact ⟨q1, q2⟩
      clear hown hnil hat hR1
      go_wp2_with fail
      refine (inOrder_c A5 _ c5 (rs.map (loopT f)) _ hR5 hz5 (by omega)).mono ?_
      rintro e w6 ⟨v6, rfl, hO6, hb6⟩
      obtain ⟨A6, c6, rfl, hR6⟩ := hO6.slice_
      have hn6 : (txs (srt (rs.map (loopT f)))).length = rs.length := by rw [txs_len, srt_len, List.length_map]
      rw [hn6] at hR6 ⊢
      clear hR5 hO6
      have hjl : (Lib.join (srt (rs.map (loopT f))) [43]).length ≤ 7 * (14 * 4782969) + 7 := joinP_len (fun t ht => hlt t (srt_mem.1 ht)) (by rw [srt_len, List.length_map]; omega)
      go_wp2_with fail
      refine (join_c A6 _ c6 (srt (rs.map (loopT f))) ⟨#[43]⟩ _ hR6 (by omega) (by show (Lib.join (srt (rs.map (loopT f))) [43]).length ≤ _; omega)).mono ?_
      rintro e w7 ⟨rfl, hb7⟩
      have hB := bt (bt (hb1.trans (hbw.mono hw1)) hb6) hb7
      go_wp2_with fail
      go_ret
      exact ⟨by rw [HS.out]; rfl, hB⟩
end Go.Proofs.Ytnpjelekpkgbpaa
