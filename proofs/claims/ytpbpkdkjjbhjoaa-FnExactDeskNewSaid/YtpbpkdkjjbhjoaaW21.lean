/- Walks: toIntSS, and the Desk's helpers szDesk, toDesk, eqDesk (laws), DeskOk (impl and spec). -/
import Derived.Test.YtpbpkdkjjbhjoaaRr
import Derived.Test.YtpbpkdkjjbhjoaaTwo
namespace Go.Proofs.Ytpbpkdkjjbhjoaa
set_option linter.unusedVariables false
open Go.RowKit

theorem row_info : (Try.prog.info? 23).map (fun i => (i.zero, i.size, i.bytes)) = some (some (.slice none 0 0), 1, 24) := by kernel_rfl
theorem vs_up {w w' : World} {B : Nat} {e : TypeId} {n c : Nat} {A : Option Addr} {vs : List Value} (h : w.ownsRow B e 1 (.slice A n c) n vs) (hb : Below w.heap.size w w') : w'.ownsRow B e 1 (.slice A n c) n vs :=
  ⟨h.1, h.2.elim .inl fun ⟨g, cap, cur, e', hg, hh, r⟩ => .inr ⟨g, cap, cur, e', hg, by rw [hb.block g (Array.getElem?_eq_some_iff.1 hh).1]; exact hh, r⟩⟩
/-- The first k rows are made. -/
def RowsTo (w : World) (g n k : Nat) (xss : List (List Int)) : Prop :=
  ∃ vs : List Value, w.ownsRow g 23 1 (.slice (some ⟨g, 0, none⟩) n n) n vs ∧ vs.length = n ∧ (∀ j, k ≤ j → j < n → vs[j]? = some (.slice none 0 0)) ∧
    ∀ j, j < k → ∃ A n' c, vs[j]? = some (.slice A n' c) ∧ OwnIn w (g + 1) w.heap.size A n' c (gR xss j)
theorem RowsTo.made {w : World} {g n : Nat} {xss : List (List Int)} (h : w.ownsRow g 23 1 (.slice (some ⟨g, 0, none⟩) n n) n (madeCells #[Value.slice none 0 0] n).toList) : RowsTo w g n 0 xss :=
  ⟨List.replicate n (.slice none 0 0), by simpa [toList_madeCells_one] using h, by simp, fun j _ hj => by simp [hj], fun j hj => absurd hj (Nat.not_lt_zero _)⟩
theorem RowsTo.lt {w : World} {g n k : Nat} {xss : List (List Int)} (h : RowsTo w g n k xss) : g < w.heap.size := by
  obtain ⟨vs, ho, _⟩ := h
  exact (ho.lt g rfl).2
theorem RowsTo.old {w w' : World} {g n k : Nat} {xss : List (List Int)} (h : RowsTo w g n k xss) (hb : Below w.heap.size w w') (hk : k < n) : w'.cell? ⟨g, k, none⟩ = some (.slice none 0 0) := by
  obtain ⟨vs, ho, hl, h0, _⟩ := h
  rw [(vs_up ho hb).cellAt k (by omega)]
  exact h0 k (Nat.le_refl _) hk
theorem RowsTo.frozen {w w' : World} {g n k : Nat} {xss : List (List Int)} (h : RowsTo w g n k xss) (hb : Below w.heap.size w w') : w'.frozen? ⟨g, k, none⟩ = false := by
  obtain ⟨vs, ho, _⟩ := h
  exact (vs_up ho hb).frozenAt k
theorem RowsTo.next {w w' : World} {g n k n' : Nat} {xss : List (List Int)} (h : RowsTo w g n k xss) (hb : Below w.heap.size w w') (hk : k < n)
    (ho : Own w' w.heap.size (some ⟨w.heap.size, 0, none⟩) n' n' (gR xss k)) : RowsTo (w'.setCell ⟨g, k, none⟩ (.slice (some ⟨w.heap.size, 0, none⟩) n' n')) g n (k + 1) xss := by
  have hg := h.lt
  obtain ⟨vs, hv, hl, h0, h1⟩ := h
  have hv' := (vs_up hv hb).stored k (.slice (some ⟨w.heap.size, 0, none⟩) n' n')
  have hch : Chg g (g + 1) w' (w'.setCell ⟨g, k, none⟩ (.slice (some ⟨w.heap.size, 0, none⟩) n' n')) := (Chg.refl g (g + 1) w').setCell (p := ⟨g, k, none⟩) (Nat.le_refl g) (Nat.lt_succ_self g) _
  refine ⟨vs.set k (.slice (some ⟨w.heap.size, 0, none⟩) n' n'), hv'.1, by simpa using hl, fun j h2 h3 => ?_, fun j hj => ?_⟩
  · rw [List.getElem?_set_ne (by omega)]; exact h0 j (by omega) h3
  · rcases Nat.lt_or_ge j k with h2 | h2
    · obtain ⟨A, m, c, e, hO⟩ := h1 j h2
      refine ⟨A, m, c, by rw [List.getElem?_set_ne (by omega)]; exact e, ?_⟩
      exact ((hO.up hb).chg hch (.inr (Nat.le_refl _))).wide (Nat.le_refl _) (Nat.le_trans hb.size hch.size)
    · obtain rfl : j = k := by omega
      refine ⟨_, _, _, by rw [List.getElem?_set_self (by omega)], ?_⟩
      exact (ho.inn.chg hch (.inr (by omega))).wide (by omega) hch.size
theorem RowsTo.rd {w : World} {g n : Nat} {xss : List (List Int)} (h : RowsTo w g n n xss) (hx : xss.length = n) (hn : n ≤ maxLen) : RdR w w.heap.size (some ⟨g, 0, none⟩) n n xss := by
  have hg := h.lt
  obtain ⟨vs, hv, hl, h0, h1⟩ := h
  refine ⟨hx, Nat.le_refl _, hn, fun _ => ⟨g, 0, rfl, hg, fun k hk => ?_⟩⟩
  obtain ⟨A, m, c, e, hO⟩ := h1 k hk
  exact ⟨A, m, c, by rw [Nat.zero_add, hv.cellAt k (by omega)]; exact e, hO.rd⟩
theorem RowsTo.chg {w w' : World} {g n k lo hi : Nat} {xss : List (List Int)} (h : RowsTo w g n k xss) (hc : Chg lo hi w w') (hd : hi ≤ g) : RowsTo w' g n k xss := by
  have hg := h.lt
  obtain ⟨vs, hv, hl, h0, h1⟩ := h
  refine ⟨vs, ⟨hv.1, hv.2.elim .inl fun ⟨g', cap, cur, e', hg', hh, r⟩ => .inr ⟨g', cap, cur, e', hg', by rw [hc.block g' (Array.getElem?_eq_some_iff.1 hh).1 (.inr (by omega))]; exact hh, r⟩⟩, hl, h0, fun j hj => ?_⟩
  obtain ⟨A, m, c, e, hO⟩ := h1 j hj
  exact ⟨A, m, c, e, (hO.chg hc (.inr (by omega))).wide (Nat.le_refl _) hc.size⟩
def Small (xss : List (List Int)) : Prop := xss.length ≤ 1048576 ∧ ∀ k, k < xss.length → (gR xss k).length ≤ 1048576
set_option maxRecDepth 100000 in
set_option maxHeartbeats 800000 in
theorem toIntSS_c (A : Option Addr) (n c : Nat) (xss : List (List Int)) (w : World) (h : RdR w w.heap.size A n c xss) (hs : Small xss) :
    Calls Try.prog 71 #[.slice A n c] w fun e w' => e = .returned (.slice (some ⟨w.heap.size, 0, none⟩) n n) ∧ RowsTo w' w.heap.size n n xss ∧ Below w.heap.size w w' := by
  have HL := Lib.hid h.len
  have hn : n ≤ 1048576 := by have := hs.1; have := h.len; omega
  have hm := h.max
  have hc := h.cap
  unfold maxLen at hm
  obtain ⟨i0, hi, hz0, hz1, hz2⟩ := info_parts row_info
  go_enter Try.func71, Try.ntmps71
  go_wp2_with (at_make; refine wpList_make_full _ rfl _ _ 36 rfl w.heap.size 23 i0 (.slice none 0 0) 1 Try.underlying36 hi hz0 hz1 _ _ _ _ n rfl rfl rfl rfl (by rw [hz2]; omega) (by unfold maxLen; omega) (Nat.le_refl _) ?_; intro w1 hown1 hg1)
  have hb1 : Below w.heap.size w w1 := (Below.refl _ _).grown hg1 (Nat.le_refl _) (fun k hk => by cases hk)
  have hr1 : RowsTo w1 w.heap.size n 0 xss := .made (by simpa [Value.cells] using hown1)
  clear hown1 hg1
  go_loopw [4] (fun i wr => ∃ k : Nat, k ≤ n ∧ i = .int .i64 k ∧ RowsTo wr w.heap.size n k xss ∧ Below w.heap.size w wr) (fun i _ => n - (intOf i).toNat)
  case atStart => exact ⟨0, Nat.zero_le _, rfl, hr1, hb1⟩
  case round =>
    obtain ⟨k, hk, rfl, hr, hbw⟩ := hrel
    clear hr1 hb1
    by_cases hlt : k < n
    · obtain ⟨b, off, A1, n1, c1, rfl, hb, hcell0, hrk⟩ := h.at_ hlt
      have hcell : wr.cell? ⟨b, off + k, none⟩ = some (.slice A1 n1 c1) := (hbw.cell (p := ⟨b, off + k, none⟩) hb).trans hcell0
      have hrk' := (hrk.below hbw).more hbw.size
      have hn1 : n1 ≤ 1048576 := by have := hs.2 k (by rw [HL.out]; exact hlt); have := hrk.len; omega
      have HB := Lib.hid hbw
      have HR := Lib.hid hr
      clear hbw hcell0 hr hrk
      go_wp2_with fail
      refine (toIntS_c A1 n1 c1 _ _ hrk' (by omega)).mono ?_
      rintro e w2 ⟨rfl, hO, hb2⟩
      have hold := HR.out.old hb2 hlt
      have hfz := HR.out.frozen (k := k) hb2
      have HN := Lib.hid (HR.out.next hb2 hlt hO)
      have HB2 := Lib.hid hb2
      clear hb2 hO
      go_wp2_with fail
      go_roundw
      case rel => exact ⟨k + 1, by omega, by go_num, HN.out, (HB.out.trans (HB2.out.mono HB.out.size)).setCell (Nat.le_refl _) _⟩
      case measure => simp [intOf]; omega
    · obtain rfl : k = n := by omega
      have HR := Lib.hid hr
      clear hr
      go_wp2_with fail
      go_ret
      exact ⟨rfl, HR.out, hbw⟩

/-! ### the desk -/
/-- The desk '.agg #[.slice A n c, .slice P m d]' reads as the map xs and the rows yss. -/
def RdD (w : World) (B : Nat) (A : Option Addr) (n c : Nat) (xs : List Int) (P : Option Addr) (m d : Nat) (yss : List (List Int)) : Prop := Rd w B A n c xs ∧ RdR w B P m d yss
set_option maxRecDepth 100000 in
set_option maxHeartbeats 800000 in
theorem szDesk_c (A P : Option Addr) (n c m d : Nat) (xs : List Int) (yss : List (List Int)) (w : World) (h : RdD w w.heap.size A n c xs P m d yss) :
    Calls Try.prog 32 #[.agg #[.slice A n c, .slice P m d], .int .i64 1048576] w fun e w' => ∃ r : Int, e = .returned (.int .i64 r) ∧ Below w.heap.size w w' ∧ -1 ≤ r ∧ r ≤ 1048576 ∧ (0 ≤ r → xs.length ≤ 1048576 ∧ Small yss) := by
  have hl := h.1.len
  have hb1 : Below w.heap.size w (w.alloc (.cells #[.slice A n c, .slice P m d] 38)) := (Below.refl _ _).alloc (Nat.le_refl _) _
  have h1 := h.1.up hb1
  have h2 := h.2.up hb1
  go_enter Try.func32, Try.ntmps32
  go_wp2_with fail
  refine (szIntS_c A n c xs 1048576 _ h1 (by omega) (by omega)).mono ?_
  rintro e w' ⟨r, rfl, rfl, hr0, hr1, hr2⟩
  by_cases hneg : r < 0
  · go_wp2_with fail
    go_ret
    exact ⟨_, rfl, hb1, by omega, by omega, fun h => by omega⟩
  · go_wp2_with fail
    refine (szIntSS_c P m d yss r _ h2 (by omega) (by omega)).mono ?_
    rintro e w' ⟨r2, rfl, rfl, hr3, hr4, hr5⟩
    by_cases hneg : r2 < 0
    · go_wp2_with fail
      go_ret
      exact ⟨_, rfl, hb1, by omega, by omega, fun h => by omega⟩
    · go_wp2_with fail
      go_ret
      have hq := hr5 (by omega)
      exact ⟨_, rfl, hb1, by omega, by omega, fun _ => ⟨by have := hr2 (by omega); omega, by have := hq.1; omega, fun k hk => by have := hq.2 k hk; omega⟩⟩

set_option maxRecDepth 100000 in
set_option maxHeartbeats 800000 in
theorem toDesk_c (A P : Option Addr) (n c m d : Nat) (xs : List Int) (yss : List (List Int)) (w : World) (h : RdD w w.heap.size A n c xs P m d yss) (hx : xs.length ≤ 1048576) (hy : Small yss) :
    Calls Try.prog 34 #[.agg #[.slice A n c, .slice P m d]] w fun e w' => ∃ A' n' c' P' m' d', e = .returned (.agg #[.slice A' n' c', .slice P' m' d']) ∧ RdD w' w'.heap.size A' n' c' xs P' m' d' yss ∧ Below w.heap.size w w' := by
  have hl := h.1.len
  go_enter Try.func34, Try.ntmps34
  go_wp2_with fail
  have ha := ((Two.made w 38 (.slice A n c) (.slice P m d)).alloc (.cells #[.slice none 0 0, .slice none 0 0] 41)).alloc (.cells #[.slice none 0 0, .slice none 0 0] 41)
  have hr := (Two.made (w.alloc (.cells #[.slice A n c, .slice P m d] 38)) 41 (.slice none 0 0) (.slice none 0 0)).alloc (.cells #[.slice none 0 0, .slice none 0 0] 41)
  have ho := Two.made ((w.alloc (.cells #[.slice A n c, .slice P m d] 38)).alloc (.cells #[.slice none 0 0, .slice none 0 0] 41)) 41 (.slice none 0 0) (.slice none 0 0)
  have hb1 : Below w.heap.size w (((w.alloc (.cells #[.slice A n c, .slice P m d] 38)).alloc (.cells #[.slice none 0 0, .slice none 0 0] 41)).alloc (.cells #[.slice none 0 0, .slice none 0 0] 41)) :=
    (((Below.refl _ _).alloc (Nat.le_refl _) _).alloc (by simp) _).alloc (by simp; omega) _
  simp only [World.size_alloc] at hr ho
  generalize ((w.alloc (.cells #[.slice A n c, .slice P m d] 38)).alloc (.cells #[.slice none 0 0, .slice none 0 0] 41)).alloc (.cells #[.slice none 0 0, .slice none 0 0] 41) = w1 at *
  have h1 := h.1.up hb1
  have h2 := h.2.up hb1
  refine (toIntS_c A n c xs _ h1 (by omega)).mono ?_
  rintro e w2 ⟨rfl, hO, hb2⟩
  have ha2 := ha.up hb2
  have hr2 := hr.up hb2
  have ho2 := ho.up hb2
  have hn1 := hb1.size
  have hn2 := hb2.size
  have ho3 := ho2.set0 (.slice (some ⟨w1.heap.size, 0, none⟩) n n)
  have ha3 := ha2.far (p := ⟨w.heap.size + 1 + 1, 0, none⟩) (by simp; omega) (.slice (some ⟨w1.heap.size, 0, none⟩) n n)
  have hr3 := hr2.far (p := ⟨w.heap.size + 1 + 1, 0, none⟩) (by simp) (.slice (some ⟨w1.heap.size, 0, none⟩) n n)
  have hlo := ho.1
  have hb3 : Below w1.heap.size w1 w2 := hb2
  have hO3' : OwnIn (w2.setCell ⟨w.heap.size + 1 + 1, 0, none⟩ (.slice (some ⟨w1.heap.size, 0, none⟩) n n)) w1.heap.size w2.heap.size (some ⟨w1.heap.size, 0, none⟩) n n xs := by
    exact (hO.inn.chg (lo' := w.heap.size + 1 + 1) (hi' := w.heap.size + 1 + 1 + 1) ((Chg.refl _ _ w2).setCell (p := ⟨w.heap.size + 1 + 1, 0, none⟩) (Nat.le_refl (w.heap.size + 1 + 1)) (Nat.lt_succ_self (w.heap.size + 1 + 1)) (.slice (some ⟨w1.heap.size, 0, none⟩) n n)) (.inr (by have := ho.1; omega)))
  have hb4 : Below w.heap.size w (w2.setCell ⟨w.heap.size + 1 + 1, 0, none⟩ (.slice (some ⟨w1.heap.size, 0, none⟩) n n)) := (hb1.trans (hb2.mono hn1)).setCell (by simp; omega) _
  have h3 := h.2.up hb4
  have hsz : (w2.setCell ⟨w.heap.size + 1 + 1, 0, none⟩ (.slice (some ⟨w1.heap.size, 0, none⟩) n n)).heap.size = w2.heap.size := by simp
  have hol1 := ho.1
  have hyl := h.2.len
  rw [← hsz] at hO3'
  clear hsz
  obtain ⟨hol, ho0, ho1, hof, _⟩ := ho2
  obtain ⟨_, _, ha1, _, _⟩ := ha3
  clear ha2 ha hr ho hr2 hO
  go_wp2_with fail
  clear ho0 ho1 hof ha1
  generalize w2.setCell ⟨w.heap.size + 1 + 1, 0, none⟩ (.slice (some ⟨w1.heap.size, 0, none⟩) n n) = w3 at *
  refine (toIntSS_c P m d yss _ h3 hy).mono ?_
  rintro e w4 ⟨rfl, hR, hb5⟩
  have hr4 := hr3.up hb5
  have ho4 := ho3.up hb5
  have hr5 := hr4.far (p := ⟨w.heap.size + 1 + 1, 1, none⟩) (by simp) (.slice (some ⟨w3.heap.size, 0, none⟩) m m)
  have ho5 := ho4.set1 (.slice (some ⟨w3.heap.size, 0, none⟩) m m)
  have hlt3 := hb4.size
  have ho3l := ho3.1
  obtain ⟨_, _, ho41, _, hof4⟩ := ho4
  obtain ⟨_, ho50, ho51, _, _⟩ := id ho5
  obtain ⟨_, hr50, hr51, hrf0, hrf1⟩ := id hr5
  clear hr3 ho3 hr4
  go_wp2_with fail
  have hend := (hr5.set0 (.slice (some ⟨w1.heap.size, 0, none⟩) n n)).set1 (.slice (some ⟨w3.heap.size, 0, none⟩) m m)
  have hbe : Below w.heap.size w (((w4.setCell ⟨w.heap.size + 1 + 1, 1, none⟩ (.slice (some ⟨w3.heap.size, 0, none⟩) m m)).setCell ⟨w.heap.size + 1, 0, none⟩ (.slice (some ⟨w1.heap.size, 0, none⟩) n n)).setCell ⟨w.heap.size + 1, 1, none⟩ (.slice (some ⟨w3.heap.size, 0, none⟩) m m)) :=
    (((hb4.trans (hb5.mono hlt3)).setCell (by simp; omega) _).setCell (by simp) _).setCell (by simp) _
  have hch : Chg (w.heap.size + 1) (w.heap.size + 3) w4 (((w4.setCell ⟨w.heap.size + 1 + 1, 1, none⟩ (.slice (some ⟨w3.heap.size, 0, none⟩) m m)).setCell ⟨w.heap.size + 1, 0, none⟩ (.slice (some ⟨w1.heap.size, 0, none⟩) n n)).setCell ⟨w.heap.size + 1, 1, none⟩ (.slice (some ⟨w3.heap.size, 0, none⟩) m m)) :=
    (((Chg.refl _ _ _).setCell (by simp) (by simp) _).setCell (by simp) (by simp) _).setCell (by simp) (by simp) _
  (try simp only [Exit.inBlock, Exit.then])
  have hpost : ∀ e, e = Ending.returned (.agg #[.slice (some ⟨w1.heap.size, 0, none⟩) n n, .slice (some ⟨w3.heap.size, 0, none⟩) m m]) → ∃ A' n' c' P' m' d', e = .returned (.agg #[.slice A' n' c', .slice P' m' d']) ∧ RdD (((w4.setCell ⟨w.heap.size + 1 + 1, 1, none⟩ (.slice (some ⟨w3.heap.size, 0, none⟩) m m)).setCell ⟨w.heap.size + 1, 0, none⟩ (.slice (some ⟨w1.heap.size, 0, none⟩) n n)).setCell ⟨w.heap.size + 1, 1, none⟩ (.slice (some ⟨w3.heap.size, 0, none⟩) m m)) (((w4.setCell ⟨w.heap.size + 1 + 1, 1, none⟩ (.slice (some ⟨w3.heap.size, 0, none⟩) m m)).setCell ⟨w.heap.size + 1, 0, none⟩ (.slice (some ⟨w1.heap.size, 0, none⟩) n n)).setCell ⟨w.heap.size + 1, 1, none⟩ (.slice (some ⟨w3.heap.size, 0, none⟩) m m)).heap.size A' n' c' xs P' m' d' yss ∧ Below w.heap.size w (((w4.setCell ⟨w.heap.size + 1 + 1, 1, none⟩ (.slice (some ⟨w3.heap.size, 0, none⟩) m m)).setCell ⟨w.heap.size + 1, 0, none⟩ (.slice (some ⟨w1.heap.size, 0, none⟩) n n)).setCell ⟨w.heap.size + 1, 1, none⟩ (.slice (some ⟨w3.heap.size, 0, none⟩) m m)) := by
    intro e he
    refine ⟨_, _, _, _, _, _, he, ⟨?_, ?_⟩, hbe⟩
    · have := (hO3'.below (B := w3.heap.size) hb5 (Nat.le_refl _)).chg hch (.inr (by omega))
      exact this.rd.more (by simp)
    · exact (hR.chg hch (by omega)).rd hyl (by have := hy.1; unfold maxLen; omega)
  refine bodyPost_ret (v := .agg #[.slice (some ⟨w1.heap.size, 0, none⟩) n n, .slice (some ⟨w3.heap.size, 0, none⟩) m m]) ?_ rfl (hpost _ rfl)
  · exact results_two rfl _ _ (w.heap.size + 1) _ _ _ rfl hend Try.underlying41 rfl desk_size

set_option maxRecDepth 100000 in
set_option maxHeartbeats 800000 in
theorem eqDesk_c (A P A' P' : Option Addr) (n c m d n' c' m' d' : Nat) (xs xs' : List Int) (yss yss' : List (List Int)) (w : World) (h : RdD w w.heap.size A n c xs P m d yss) (h' : RdD w w.heap.size A' n' c' xs' P' m' d' yss') :
    Calls Try.prog 36 #[.agg #[.slice A n c, .slice P m d], .agg #[.slice A' n' c', .slice P' m' d']] w fun e w' => e = .returned (.bool (eqB xs xs' && eqBB yss yss')) ∧ Below w.heap.size w w' := by
  have hb1 : Below w.heap.size w (w.alloc (.cells #[.slice A n c, .slice P m d] 41)) := (Below.refl _ _).alloc (Nat.le_refl _) _
  have hb2 : Below w.heap.size w ((w.alloc (.cells #[.slice A n c, .slice P m d] 41)).alloc (.cells #[.slice A' n' c', .slice P' m' d'] 41)) := hb1.alloc (by simp) _
  have h1 := h.1.up hb2
  have h2 := h.2.up hb2
  have h1' := h'.1.up hb2
  have h2' := h'.2.up hb2
  clear hb1
  go_enter Try.func36, Try.ntmps36
  go_wp2_with fail
  refine (eqIntS_c A A' n c n' c' xs xs' _ h1 h1').mono ?_
  rintro e w' ⟨rfl, k, rfl⟩
  rcases hq : eqB xs xs' with _ | _
  · go_wp2_with fail
    go_ret
    exact ⟨by rw [hq]; rfl, bd hb2 k⟩
  · go_wp2_with fail
    refine (eqIntSS_c P P' m d m' d' yss yss' _ (h2.dn k) (h2'.dn k)).mono ?_
    rintro e w' ⟨rfl, k2, rfl⟩
    rcases hq2 : eqBB yss yss' with _ | _
    · go_wp2_with fail
      go_ret
      exact ⟨by rw [hq, hq2]; rfl, bd hb2 (k + k2)⟩
    · go_wp2_with fail
      go_ret
      exact ⟨by rw [hq, hq2]; rfl, bd hb2 (k + k2)⟩
end Go.Proofs.Ytpbpkdkjjbhjoaa
