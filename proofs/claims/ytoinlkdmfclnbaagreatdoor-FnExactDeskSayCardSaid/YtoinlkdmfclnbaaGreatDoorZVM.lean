/- Bundle VM. -/
import Derived.Deep.RegionHeld3
import Derived.Test.YtoinlkdmfclnbaaGreatDoorZM24
import Derived.Test.YtoinlkdmfclnbaaGreatDoorZM25
import Derived.Test.YtoinlkdmfclnbaaGreatDoorZV14
import Derived.Test.YtoinlkdmfclnbaaGreatDoorZV15
import Derived.Test.YtoinlkdmfclnbaaGreatDoorZV16
import Derived.Test.YtoinlkdmfclnbaaGreatDoorZV18
import Derived.Test.YtoinlkdmfclnbaaGreatDoorZVD
import Derived.Test.YtoinlkdmfclnbaaGreatDoorZVF
import Derived.Test.YtoinlkdmfclnbaaGreatDoorZVI
import Derived.Test.YtoinlkdmfclnbaaGreatDoorZW158
namespace Go.Proofs.YtoinlkdmfclnbaaGreatDoor
set_option linter.unusedVariables false
open Go.RowKit

/-- A row of texts of the call's own whose block lies from lo on, and below hi. -/
def OwnP (w : World) (lo hi : Nat) (A : Option Addr) (n c : Nat) (ts : List ByteArray) : Prop :=
  ts.length = n ∧ w.ownsRow lo 9 1 (.slice A n c) n (ts.map Value.string) ∧ ∀ k, (Value.slice A n c).ownBlock = some k → k < hi
section
variable {lo hi lo' hi' B n c g : Nat} {w w' : World} {A : Option Addr} {ts : List ByteArray} {v : Value}
theorem OwnP.len (h : OwnP w lo hi A n c ts) : ts.length = n := h.1
theorem OwnP.nil_ (w : World) (lo hi : Nat) : OwnP w lo hi none 0 0 [] := ⟨rfl, World.ownsRow_nil _ _ _ _, fun k hk => by cases hk⟩
theorem OwnP.lt (h : OwnP w lo hi A n c ts) : ∀ k, (Value.slice A n c).ownBlock = some k → lo ≤ k ∧ k < hi ∧ k < w.heap.size := fun k hk => ⟨(h.2.1.lt k hk).1, h.2.2 k hk, (h.2.1.lt k hk).2⟩
theorem OwnP.wide (h : OwnP w lo hi A n c ts) (h1 : lo' ≤ lo) (h2 : hi ≤ hi') : OwnP w lo' hi' A n c ts :=
  ⟨h.1, ⟨h.2.1.1, h.2.1.2.elim .inl fun ⟨g, cap, cur, e', hg, r⟩ => .inr ⟨g, cap, cur, e', by omega, r⟩⟩, fun k hk => by have := h.2.2 k hk; omega⟩
theorem OwnP.keep (h : OwnP w lo hi A n c ts) (hk : ∀ k, lo ≤ k → k < hi → k < w.heap.size → w'.heap[k]? = w.heap[k]?) : OwnP w' lo hi A n c ts :=
  ⟨h.1, ownsRow_keep h.2.1 h.2.2 hk, h.2.2⟩
theorem OwnP.up (h : OwnP w lo hi A n c ts) (hb : Below w.heap.size w w') : OwnP w' lo hi A n c ts := h.keep fun k _ _ h3 => hb.block k h3
theorem OwnP.chg (h : OwnP w lo hi A n c ts) (hc : Chg lo' hi' w w') (hd : hi ≤ lo' ∨ hi' ≤ lo) : OwnP w' lo hi A n c ts := h.keep fun k _ _ h3 => hc.block k h3 (by omega)
theorem OwnP.dn (h : OwnP w lo hi A n c ts) (m : Nat) : OwnP (w.drewN m) lo hi A n c ts := h
theorem OwnP.some_ (h : OwnP w lo hi A n c ts) (hn : 0 < n) : ∃ g, A = some ⟨g, 0, none⟩ := by
  rcases h.2.1.2 with ⟨e, h0⟩ | ⟨g, cap, cur, e, _⟩
  · omega
  · cases e; exact ⟨g, rfl⟩
theorem OwnP.cell (h : OwnP w lo hi (some ⟨g, 0, none⟩) n c ts) {k : Nat} (hk : k < n) : w.cell? ⟨g, k, none⟩ = some (.string (gT ts k)) := by
  rw [h.2.1.cellAt k (by omega)]
  have hl := h.1
  simp [gT, List.getD, List.getElem?_eq_getElem (show k < ts.length by omega)]
theorem OwnP.frozen (h : OwnP w lo hi (some ⟨g, 0, none⟩) n c ts) (j : Nat) : w.frozen? ⟨g, j, none⟩ = false := h.2.1.frozenAt j
theorem OwnP.rd (h : OwnP w lo hi A n c ts) : RdT w w.heap.size A n c ts := by
  rcases h.2.1.2 with ⟨e, rfl⟩ | ⟨g, cap, cur, e, hb, hg, hnc, hcm, hcs, ht⟩
  · cases e
    exact ⟨h.1, Nat.le_refl _, Nat.zero_le _, fun h => absurd h (by omega)⟩
  · cases e
    exact ⟨h.1, hnc, hcm, fun _ => ⟨g, 0, rfl, (Array.getElem?_eq_some_iff.1 hg).1, fun k hk => by rw [Nat.zero_add]; exact h.cell hk⟩⟩
theorem OwnP.store (h : OwnP w lo hi (some ⟨g, 0, none⟩) n c ts) (k : Nat) (t : ByteArray) :
    OwnP (w.setCell ⟨g, k, none⟩ (.string t)) lo hi (some ⟨g, 0, none⟩) n c (ts.set k t) ∧ Chg lo hi w (w.setCell ⟨g, k, none⟩ (.string t)) := by
  have h1 := h.lt g rfl
  have h2 := (h.2.1.stored k (.string t)).1
  rw [show (ts.map Value.string).set k (.string t) = (ts.set k t).map Value.string from by rw [List.map_set]] at h2
  exact ⟨⟨by rw [List.length_set]; exact h.1, h2, h.2.2⟩, (Chg.refl lo hi w).setCell h1.1 h1.2.1 _⟩
theorem OwnS.p (h : OwnS w B v ts) : ∃ A c, v = .slice A ts.length c ∧ OwnP w B w.heap.size A ts.length c ts := by
  obtain ⟨A, c, rfl, _⟩ := h.slice_
  exact ⟨A, c, rfl, rfl, h, fun k hk => (h.lt k hk).2⟩
end
/-- the first k of the texts, empty ones behind them -/
def tT (ts : List ByteArray) (k : Nat) : List ByteArray := ts.take k ++ List.replicate (ts.length - k) ⟨#[]⟩
theorem tT_len (ts : List ByteArray) (k : Nat) (h : k ≤ ts.length) : (tT ts k).length = ts.length := by simp [tT]; omega
theorem tT_zero (ts : List ByteArray) : tT ts 0 = List.replicate ts.length ⟨#[]⟩ := by simp [tT]
theorem tT_all (ts : List ByteArray) : tT ts ts.length = ts := by simp [tT]
theorem tT_succ (ts : List ByteArray) {k : Nat} (h : k < ts.length) : (tT ts k).set k (gT ts k) = tT ts (k + 1) := by
  unfold tT
  have hl : (ts.take k).length = k := by rw [List.length_take]; omega
  rw [List.set_append_right _ _ (by omega), hl, Nat.sub_self, show ts.length - k = (ts.length - (k + 1)) + 1 by omega, List.replicate_succ, List.set_cons_zero, List.take_succ_eq_append_getElem h, gT_get h, List.append_assoc]
  rfl
theorem eq_of_gT {ts us : List ByteArray} (hl : ts.length = us.length) (h : ∀ j, j < ts.length → gT ts j = gT us j) : ts = us := by
  apply List.ext_getElem hl
  intro j h1 h2
  have := h j h1
  rwa [gT_get h1, gT_get h2] at this
def eqTs (ts us : List ByteArray) : Bool := decide (ts = us)
theorem eqTs_self (ts : List ByteArray) : eqTs ts ts = true := decide_eq_true rfl
def SzP (ts : List ByteArray) (left : Int) (w : World) (e : Ending) (w' : World) : Prop :=
  ∃ r : Int, e = .returned (.int .i64 r) ∧ Below w.heap.size w w' ∧ -1 ≤ r ∧ r ≤ left ∧ (0 ≤ r → (ts.length : Int) ≤ left ∧ ∀ k, k < ts.length → ((gT ts k).size : Int) ≤ left)
set_option maxRecDepth 100000 in
set_option maxHeartbeats 800000 in
theorem szStringS_c (A : Option Addr) (n c : Nat) (ts : List ByteArray) (left : Int) (w : World) (h : RdT w w.heap.size A n c ts) (hsz : ∀ k, k < n → (gT ts k).size ≤ maxLen) (h0 : 0 ≤ left) (h1 : left ≤ 1048576) :
    Calls Tryz.prog 21 #[.slice A n c, .int .i64 left] w (SzP ts left w) := by
  have HL := Lib.hid h.len
  have hm := h.max
  have hc := h.cap
  have HS := Lib.hid hsz
  clear hsz
  unfold maxLen at hm
  by_cases hn : (n : Int) ≤ left
  · have hn0 : ¬ (left - (n : Int) < 0) := by omega
    go_enter Tryz.func21, Tryz.ntmps21
    go_wp2
    go_loopw [1, 5] (fun l i wr => ∃ (k : Nat) (r : Int), k ≤ n ∧ i = .int .i64 k ∧ l = .int .i64 r ∧ 0 ≤ r ∧ r ≤ left ∧ (∀ j, j < k → ((gT ts j).size : Int) ≤ left) ∧ Below w.heap.size w wr) (fun _ i _ => n - (intOf i).toNat)
    case atStart => exact ⟨0, _, Nat.zero_le _, rfl, rfl, by omega, by omega, fun j hj => absurd hj (Nat.not_lt_zero _), Below.refl _ _⟩
    case round =>
      obtain ⟨k, r, hk, rfl, rfl, hr0, hr1, hall, hbw⟩ := hrel
      have HA := Lib.hid hall
      clear hall
      by_cases hlt : k < n
      · obtain ⟨b, off, rfl, hb, c0⟩ := (h.up hbw).at_ hlt
        have hs := HS.out k hlt
        unfold maxLen at hs
        have HG := Lib.hid (rfl : gT ts k = gT ts k)
        by_cases hneg : r - ((gT ts k).size : Int) < 0
        · generalize gT ts k = T at c0 hs hneg
          go_wp2_with fail
          go_ret
          exact ⟨_, rfl, hbw, by omega, by omega, fun h => by omega⟩
        · have HK := Lib.hid (show ((gT ts k).size : Int) ≤ left by omega)
          generalize hT : gT ts k = T at c0 hs hneg
          clear hT
          go_wp2_with fail
          go_roundw
          case rel => exact ⟨k + 1, _, by omega, by go_num, rfl, by omega, by omega, fun j hj => by
            rcases Nat.lt_or_ge j k with h' | h'
            · exact HA.out j h'
            · obtain rfl : j = k := by omega
              exact HK.out, hbw⟩
          case measure => simp [intOf]; omega
      · go_wp2
        go_ret
        exact ⟨_, rfl, hbw, by omega, by omega, fun _ => ⟨by rw [HL.out]; exact hn, fun j hj => HA.out j (by have := HL.out; omega)⟩⟩
  · go_enter Tryz.func21, Tryz.ntmps21
    go_wp2
    go_ret
    exact ⟨_, rfl, Below.refl _ _, by omega, by omega, fun h => by omega⟩
set_option maxRecDepth 100000 in
set_option maxHeartbeats 800000 in
theorem toStringS_c (A : Option Addr) (n c : Nat) (ts : List ByteArray) (w : World) (h : RdT w w.heap.size A n c ts) (hn : n ≤ 1048576) :
    Calls Tryz.prog 23 #[.slice A n c] w fun e w' => e = .returned (.slice (some ⟨w.heap.size, 0, none⟩) n n) ∧ OwnP w' w.heap.size w'.heap.size (some ⟨w.heap.size, 0, none⟩) n n ts ∧ Below w.heap.size w w' := by
  have HL := Lib.hid h.len
  obtain ⟨i0, hi, hz0, hz1, hz2⟩ := info_parts text_info
  have hm := h.max
  have hc := h.cap
  unfold maxLen at hm
  go_enter Tryz.func23, Tryz.ntmps23
  go_wp2_with (at_make; refine wpList_make_full _ rfl _ _ 34 rfl w.heap.size 9 i0 (.string ⟨#[]⟩) 1 Tryz.underlying34 hi hz0 hz1 _ _ _ _ n rfl rfl rfl rfl (by rw [hz2]; omega) (by unfold maxLen; omega) (Nat.le_refl _) ?_; intro w1 hown1 hg1)
  have hb1 : Below w.heap.size w w1 := (Below.refl _ _).grown hg1 (Nat.le_refl _) (fun k hk => by cases hk)
  have hE1 : OwnP w1 w.heap.size (w.heap.size + 1) (some ⟨w.heap.size, 0, none⟩) n n (tT ts 0) := by
    refine ⟨by rw [tT_len _ _ (Nat.zero_le _)]; exact HL.out, ?_, fun k hk => by cases hk; exact Nat.lt_succ_self _⟩
    rw [tT_zero, HL.out]
    simpa [toList_madeCells_one, Value.cells] using hown1
  clear hown1 hg1
  go_loopw [4] (fun i wr => ∃ k : Nat, k ≤ n ∧ i = .int .i64 k ∧ OwnP wr w.heap.size (w.heap.size + 1) (some ⟨w.heap.size, 0, none⟩) n n (tT ts k) ∧ Below w.heap.size w wr) (fun i _ => n - (intOf i).toNat)
  case atStart => exact ⟨0, Nat.zero_le _, rfl, hE1, hb1⟩
  case round =>
    obtain ⟨k, hk, rfl, hE, hbw⟩ := hrel
    clear hE1 hb1
    by_cases hlt : k < n
    · obtain ⟨b, off, rfl, hb, c0⟩ := (h.up hbw).at_ hlt
      have HT := Lib.hid (tT_succ ts (k := k) (by rw [HL.out]; exact hlt))
      have hwz := (hE.lt w.heap.size rfl).2.2
      have o0 := hE.cell hlt
      have f0 := hE.frozen k
      have HST := Lib.hid (hE.store k (gT ts k))
      have HB := Lib.hid hbw
      have HH : Hid (tT ts (k + 1) = (tT ts k).set k (gT ts k)) := Lib.hid HT.out.symm
      clear hE hbw HT
      go_wp2_with fail
      go_roundw
      case rel => exact ⟨k + 1, by omega, by go_num, by rw [HH.out]; exact HST.out.1, HB.out.trans (HST.out.2.belowLo (Nat.le_refl _) (by omega))⟩
      case measure => simp [intOf]; omega
    · have hkn : k = n := by omega
      have HE : Hid (OwnP wr w.heap.size (w.heap.size + 1) (some ⟨w.heap.size, 0, none⟩) n n ts) := Lib.hid (by
        rw [hkn] at hE
        have e := tT_all ts
        rw [HL.out] at e
        rw [e] at hE; exact hE)
      clear hE hkn
      go_wp2_with fail
      go_ret
      exact ⟨rfl, HE.out.wide (Nat.le_refl _) (by have := (HE.out.lt w.heap.size rfl).2.2; omega), hbw⟩
set_option maxRecDepth 100000 in
set_option maxHeartbeats 1600000 in
theorem eqStringS_c (A A' : Option Addr) (n c n' c' : Nat) (ts us : List ByteArray) (w : World) (h : RdT w w.heap.size A n c ts) (h' : RdT w w.heap.size A' n' c' us) :
    Calls Tryz.prog 25 #[.slice A n c, .slice A' n' c'] w fun e w' => e = .returned (.bool (eqTs ts us)) ∧ Below w.heap.size w w' := by
  have HL := Lib.hid h.len
  have HL' := Lib.hid h'.len
  have hm := h.max
  have hc := h.cap
  have hm' := h'.max
  have hc' := h'.cap
  unfold maxLen at hm hm'
  by_cases hne : n = n'
  · subst hne
    go_enter Tryz.func25, Tryz.ntmps25
    go_wp2
    go_loopw [5] (fun i wr => ∃ k : Nat, k ≤ n ∧ i = .int .i64 k ∧ (∀ j, j < k → gT ts j = gT us j) ∧ Below w.heap.size w wr) (fun i _ => n - (intOf i).toNat)
    case atStart => exact ⟨0, Nat.zero_le _, rfl, fun j hj => absurd hj (Nat.not_lt_zero _), Below.refl _ _⟩
    case round =>
      obtain ⟨k, hk, rfl, hall, hbw⟩ := hrel
      have HA := Lib.hid hall
      clear hall
      by_cases hlt : k < n
      · obtain ⟨b, off, rfl, hb, c0⟩ := ((h.up hbw).dn 1).at_ hlt
        obtain ⟨b', off', rfl, hb', d0⟩ := ((h'.up hbw).dn 1).at_ hlt
        have hp0 : (0 : Int) ≤ (k : Int) := Int.natCast_nonneg _
        have hp1 : (k : Int) < (n : Int) := by omega
        have HB := Lib.hid (show Below w.heap.size w wr.drew from bd hbw 1)
        clear hbw
        by_cases he : gT ts k = gT us k
        · have HE : Hid (∀ j, j = k → gT ts j = gT us j) := Lib.hid (fun j e => by rw [e]; exact he)
          rw [← he] at d0
          clear he
          generalize gT ts k = T at *
          go_wp2
          go_region_held3 (fun w' => w'.cell? ⟨b, off + k, none⟩ = some (.string T) ∧ w'.cell? ⟨b', off' + k, none⟩ = some (.string T))
            (exact ⟨c0, d0⟩)
            (fail)
          go_wp2_with fail
          go_roundw
          case rel => exact ⟨k + 1, by omega, by go_num, fun j hj => by
                 rcases Nat.lt_or_ge j k with h' | h'
                 · exact HA.out j h'
                 · exact HE.out j (by omega), HB.out⟩
          case measure => simp [intOf]; omega
        · have HE := Lib.hid (show eqTs ts us = false from decide_eq_false (fun e => he (by rw [e])))
          have qT : ((gT ts k).toList == (gT us k).toList) = false := beqF (fun h => he (by rw [← bl_of (gT ts k), ← bl_of (gT us k), ← ByteArray.toList_eq, ← ByteArray.toList_eq, h]))
          clear he
          generalize gT ts k = T at *
          generalize gT us k = U at *
          go_wp2
          go_region_held3 (fun w' => w'.cell? ⟨b, off + k, none⟩ = some (.string T) ∧ w'.cell? ⟨b', off' + k, none⟩ = some (.string U))
            (exact ⟨c0, d0⟩)
            (fail)
          go_wp2_with fail
          go_ret
          exact ⟨boolEnd HE.out.symm, HB.out⟩
      · go_wp2
        go_ret
        exact ⟨boolEnd (decide_eq_true (eq_of_gT (by rw [HL.out, HL'.out]) (fun j hj => HA.out j (by have := HL.out; omega)))).symm, hbw⟩
  · have hq : ((n : Int) != (n' : Int)) = true := by simp; omega
    go_enter Tryz.func25, Tryz.ntmps25
    go_wp2
    go_ret
    exact ⟨boolEnd (decide_eq_false (fun e => hne (by rw [← HL.out, ← HL'.out, e]))).symm, Below.refl _ _⟩
/-! ### marks -/
def marksT (k0 n : Nat) : List ByteArray := (List.range n).map (fun j => mkT (k0 + j))
theorem marksT_len (k0 n : Nat) : (marksT k0 n).length = n := by simp [marksT]
def mkS (ts : List ByteArray) (k0 j : Nat) : List ByteArray := marksT k0 j ++ ts.drop j
theorem mkS_zero (ts : List ByteArray) (k0 : Nat) : mkS ts k0 0 = ts := by simp [mkS, marksT]
theorem mkS_all (ts : List ByteArray) (k0 n : Nat) (h : ts.length = n) : mkS ts k0 n = marksT k0 n := by simp [mkS, ← h]
theorem mkS_succ (ts : List ByteArray) (k0 j : Nat) (h : j < ts.length) : (mkS ts k0 j).set j (mkT (k0 + j)) = mkS ts k0 (j + 1) := by
  unfold mkS
  rw [List.set_append_right _ _ (by rw [marksT_len]; exact Nat.le_refl _), marksT_len, Nat.sub_self, List.drop_eq_getElem_cons h, List.set_cons_zero]
  simp [marksT, List.range_succ]
theorem gT_marksT {k0 n j : Nat} (h : j < n) : gT (marksT k0 n) j = mkT (k0 + j) := by
  rw [gT_get (by rw [marksT_len]; exact h)]; simp [marksT]
set_option maxRecDepth 100000 in
set_option maxHeartbeats 1600000 in
theorem markStringS_c (A : Option Addr) (n c k0 lo hi : Nat) (ts : List ByteArray) (w : World) (h : OwnP w lo hi A n c ts) (hk : 0 < k0) (hk0 : k0 + n ≤ 1000000000000) (hh : lo ≤ w.heap.size) :
    Calls Tryz.prog 27 #[.slice A n c, .int .i64 (k0 : Int)] w fun e w' => e = .returned (.int .i64 ((k0 + n : Nat) : Int)) ∧ OwnP w' lo hi A n c (marksT k0 n) ∧ Chg lo hi w w' := by
  have HL := Lib.hid h.len
  have hm := h.rd.max
  have hcp := h.rd.cap
  unfold maxLen at hm
  go_enter Tryz.func27, Tryz.ntmps27
  go_wp2_with fail
  go_loopw [1, 5] (fun t i wr => ∃ j q : Nat, j ≤ n ∧ i = .int .i64 j ∧ t = .int .i64 (q : Int) ∧ q = k0 + j ∧ OwnP wr lo hi A n c (mkS ts k0 j) ∧ Chg lo hi w wr) (fun _ i _ => n - (intOf i).toNat)
  case atStart => exact ⟨0, k0, Nat.zero_le _, rfl, rfl, rfl, by rw [mkS_zero]; exact h, Chg.refl _ _ _⟩
  case round =>
    obtain ⟨j, q, hj, rfl, rfl, hq, hE, hc⟩ := hrel
    have HQ := Lib.hid hq
    have hq9 : q + 1 ≤ 1000000000000 ∨ n ≤ j := by omega
    clear hq
    by_cases hlt : j < n
    · have hq1 : q + 1 ≤ 1000000000000 := by omega
      clear hq9
      obtain ⟨g, rfl⟩ := hE.some_ (by omega)
      have hlg := hE.lt g rfl
      have KM := markText_c q wr (by have := HQ.out; omega) (by omega)
      have HT : Hid (mkS ts k0 (j + 1) = (mkS ts k0 j).set j (mkT q)) := Lib.hid (by rw [HQ.out]; exact (mkS_succ ts k0 j (by rw [HL.out]; exact hlt)).symm)
      go_wp2_with fail
      refine KM.mono ?_
      rintro e w4 ⟨rfl, hb4⟩
      have hE4 := hE.up hb4
      have o4 := hE4.cell hlt
      have f4 := hE4.frozen j
      have HST := Lib.hid (hE4.store j (mkT q))
      have HC := Lib.hid (hc.up_ hb4)
      generalize mkT q = T at *
      clear KM hE hE4 hc hb4
      go_wp2_with fail
      go_roundw
      case rel => exact ⟨j + 1, q + 1, by omega, by go_num, by go_num, by have := HQ.out; omega, by rw [HT.out]; exact HST.out.1, HC.out.trans HST.out.2⟩
      case measure => simp [intOf]; omega
    · have hjn : j = n := by omega
      have HE : Hid (OwnP wr lo hi A n c (marksT k0 n)) := Lib.hid (by
        rw [hjn, mkS_all ts k0 n HL.out] at hE; exact hE)
      have HN : Hid (q = k0 + n) := Lib.hid (by rw [HQ.out, hjn])
      clear hjn hE hq9
      go_wp2_with fail
      go_ret
      exact ⟨intEnd (by rw [HN.out]), HE.out, hc⟩
set_option maxRecDepth 100000 in
set_option maxHeartbeats 1600000 in
theorem heldStringS_c (A : Option Addr) (n c k0 : Nat) (w : World) (h : RdT w w.heap.size A n c (marksT k0 n)) (hk : 0 < k0) (hk0 : k0 + n ≤ 1000000000000) :
    Calls Tryz.prog 29 #[.slice A n c, .int .i64 (k0 : Int)] w fun e w' => e = .returned (.int .i64 ((k0 + n : Nat) : Int)) ∧ Below w.heap.size w w' := by
  have hm := h.max
  have hcp := h.cap
  unfold maxLen at hm
  go_enter Tryz.func29, Tryz.ntmps29
  go_wp2_with fail
  go_loopw [1, 5] (fun t i wr => ∃ j q : Nat, j ≤ n ∧ i = .int .i64 j ∧ t = .int .i64 (q : Int) ∧ q = k0 + j ∧ Below w.heap.size w wr) (fun _ i _ => n - (intOf i).toNat)
  case atStart => exact ⟨0, k0, Nat.zero_le _, rfl, rfl, rfl, Below.refl _ _⟩
  case round =>
    obtain ⟨j, q, hj, rfl, rfl, hq, hB⟩ := hrel
    have HQ := Lib.hid hq
    have hq9 : q + 1 ≤ 1000000000000 ∨ n ≤ j := by omega
    by_cases hlt : j < n
    · have hq1 : q + 1 ≤ 1000000000000 := by omega
      have hr := h.up hB
      obtain ⟨b, off, rfl, hbE, e0⟩ := hr.at_ hlt
      have hk0i : (0 : Int) ≤ (j : Int) := Int.natCast_nonneg _
      have hk1i : (j : Int) < (n : Int) := by omega
      rw [gT_marksT hlt, ← hq] at e0
      have KM := fun W => markText_c q W (by omega) (by omega)
      generalize mkT q = T at *
      clear hq hq9 hr
      go_wp2_with fail
      have Y0 : Hid (World.cell? wr.drew ⟨b, off + j, none⟩ = some (.string T)) := Lib.hid e0
      have HB : Hid (Below w.heap.size w wr.drew) := Lib.hid (bd hB 1)
      have hbd : b < wr.drew.heap.size := hbE
      clear e0 hB
      go_region_held3 (fun w' => World.cell? w' ⟨b, off + j, none⟩ = some (.string T))
        (first | exact Y0.out | exact Y1.out)
        (first
          | (go_at_call 79; with_reducible refine (KM _).mono ?_; rintro e w2 ⟨rfl, hb2⟩; have hB2 : Below w.heap.size w w2 := bt HB.out hb2; have Y1 : Hid (World.cell? w2 ⟨b, off + j, none⟩ = some (.string T)) := Lib.hid ((hb2.cell (p := ⟨b, off + j, none⟩) hbd).trans Y0.out)))
      all_goals
        go_wp2_with fail
        go_roundw
        case rel => exact ⟨j + 1, q + 1, by omega, by go_num, by go_num, by have := HQ.out; omega, hB2⟩
        case measure => simp [intOf]; omega
    · have hjn : j = n := by omega
      have HN : Hid (q = k0 + n) := Lib.hid (by rw [HQ.out, hjn])
      clear hjn hq9 hq
      go_wp2_with fail
      go_ret
      exact ⟨intEnd (by rw [HN.out]), hB⟩
end Go.Proofs.YtoinlkdmfclnbaaGreatDoor
namespace Go.Proofs.YtoinlkdmfclnbaaGreatDoor
set_option linter.unusedVariables false

/-! ### settled maps -/
section
variable {g : List Nat}
end
/-! ### the lines of the law -/
/-! ### no answer is empty -/
end Go.Proofs.YtoinlkdmfclnbaaGreatDoor
namespace Go.Proofs.YtoinlkdmfclnbaaGreatDoor
set_option linter.unusedVariables false
open Go.RowKit

abbrev Sy := List Int × List (List Int) × List ByteArray
/-- one line more -/
def stepS (t : Sy) (s : ByteArray) : Sy := ((lnX t.1 t.2.1 s.data.toList).1, (lnX t.1 t.2.1 s.data.toList).2.1, t.2.2 ++ [(lnX t.1 t.2.1 s.data.toList).2.2])
def sayL (xs : List Int) (yss : List (List Int)) (ts : List ByteArray) : Sy := ts.foldl stepS (xs, yss, [])
def sayB (xs : List Int) (yss : List (List Int)) (ts : List ByteArray) : Bool := deskOkB xs yss && decide (ts.length ≤ 40)
/-- the desk after lines, and the answers -/
def sayX (xs : List Int) (yss : List (List Int)) (ts : List ByteArray) : Sy := if sayB xs yss ts then sayL xs yss ts else ([], [], [])
theorem sayL_succ (xs : List Int) (yss : List (List Int)) (ts : List ByteArray) {k : Nat} (h : k < ts.length) : sayL xs yss (ts.take (k + 1)) = stepS (sayL xs yss (ts.take k)) (gT ts k) := by
  unfold sayL
  rw [List.take_succ_eq_append_getElem h, List.foldl_append, gT_get h]; rfl
theorem lnX_ok {xs : List Int} {yss : List (List Int)} (l : List UInt8) (h : deskOkB xs yss = true) : deskOkB (lnX xs yss l).1 (lnX xs yss l).2.1 = true := by
  unfold lnX
  rw [h]
  simp only [if_true]
  split
  · exact doX_desk _ _ _ _ h
  · exact h
theorem sayF_ok : ∀ (ts : List ByteArray) (t : Sy), deskOkB t.1 t.2.1 = true → deskOkB (ts.foldl stepS t).1 (ts.foldl stepS t).2.1 = true
  | [], _, h => h
  | s :: r, t, h => sayF_ok r (stepS t s) (lnX_ok _ h)
theorem sayL_ok {xs : List Int} {yss : List (List Int)} (ts : List ByteArray) (h : deskOkB xs yss = true) : deskOkB (sayL xs yss ts).1 (sayL xs yss ts).2.1 = true := sayF_ok ts _ h
theorem sayF_len : ∀ (ts : List ByteArray) (t : Sy), (ts.foldl stepS t).2.2.length = t.2.2.length + ts.length
  | [], _ => rfl
  | s :: r, t => by
    have h := sayF_len r (stepS t s)
    have e : (stepS t s).2.2.length = t.2.2.length + 1 := by unfold stepS; simp
    show (r.foldl stepS (stepS t s)).2.2.length = t.2.2.length + (r.length + 1)
    omega
theorem sayL_len (xs : List Int) (yss : List (List Int)) (ts : List ByteArray) : (sayL xs yss ts).2.2.length = ts.length := by
  have h := sayF_len ts (xs, yss, [])
  exact h.trans (Nat.zero_add _)
theorem sayX_sizes (xs : List Int) (yss : List (List Int)) (ts : List ByteArray) : (sayX xs yss ts).1.length ≤ 7 ∧ (sayX xs yss ts).2.1.length ≤ 8 ∧ tot (sayX xs yss ts).2.1 ≤ 56 ∧ Rows0 (sayX xs yss ts).2.1 ∧ (sayX xs yss ts).2.2.length ≤ 40 := by
  unfold sayX
  split
  · rename_i hb
    unfold sayB at hb
    rw [Bool.and_eq_true, decide_eq_true_eq] at hb
    have h2 := sayL_ok ts hb.1
    have h3 := desk_fit h2
    have h4 := desk_parts h2
    exact ⟨h3.2.1, h4.2.1, tot_fit h3.2.2 h4.2.1, fun k hk => (h3.2.2.2 k hk).1, by rw [sayL_len]; exact hb.2⟩
  · exact ⟨by simp, by simp, by simp [tot], fun k hk => by simp at hk, by simp⟩
section
variable {w w' : World} {B n c lo hi : Nat} {A : Option Addr} {ts : List ByteArray}
theorem RdT.upB (h : RdT w B A n c ts) (hb : Below w.heap.size w w') (hB : B ≤ w.heap.size) : RdT w' B A n c ts := h.below (hb.mono hB)
theorem RdT.chgB (h : RdT w B A n c ts) (hc : Chg lo hi w w') (h1 : B ≤ lo) (h2 : B ≤ w.heap.size) : RdT w' B A n c ts := h.below (hc.belowLo h1 h2)
theorem RdT.dnB (h : RdT w B A n c ts) (k : Nat) : RdT (w.drewN k) B A n c ts := h.keep fun _ _ => rfl
theorem RdT.moreB (h : RdT w B A n c ts) (hB : B ≤ w.heap.size) : RdT w w.heap.size A n c ts := h.more hB
end
/-- lines that are not long -/
def Ln (ts : List ByteArray) : Prop := ∀ k, k < ts.length → (gT ts k).size ≤ 2000000
/-- A desk and a row of texts, both of the call's own and apart. -/
def SayO (w : World) (r1 : List Int) (r2 : List (List Int)) (zs : List ByteArray) (e : Ending) (w' : World) : Prop :=
  ∃ A n c P k d T N C l1 h1 l2 h2, e = .returned (.tuple #[.agg #[.slice A n c, .slice P k d], .slice T N C]) ∧ OwnD w' l1 h1 A n c r1 P k d r2 ∧ OwnP w' l2 h2 T N C zs ∧
    w.heap.size ≤ l1 ∧ h1 ≤ w'.heap.size ∧ w.heap.size ≤ l2 ∧ h2 ≤ w'.heap.size ∧ (h1 ≤ l2 ∨ h2 ≤ l1) ∧ l2 ≤ h2 ∧ Below w.heap.size w w'
def SayR (w : World) (r1 : List Int) (r2 : List (List Int)) (zs : List ByteArray) (e : Ending) (w' : World) : Prop :=
  ∃ A n c P k d T N C, e = .returned (.tuple #[.agg #[.slice A n c, .slice P k d], .slice T N C]) ∧ RdD w' w'.heap.size A n c r1 P k d r2 ∧ RdT w' w'.heap.size T N C zs ∧ Below w.heap.size w w'
theorem makeTexts (n : Nat) (w : World) (hn : n ≤ 1000000) :
    (Instr.makeSlice 34 (.int .i64 0) (.int .i64 (n : Int))).run Tryz.prog w = .ok (.slice (some ⟨w.heap.size, 0, none⟩) 0 n) (w.alloc (.cells (madeCells #[Value.string ⟨#[]⟩] n) 9)) := by
  obtain ⟨i0, hi, hz0, hz1, hz2⟩ := info_parts text_info
  have hr := run_make (P := Tryz.prog) w 34 9 i0 (.string ⟨#[]⟩) Tryz.underlying34 hi hz0 .i64 .i64 0 (n : Int) (by omega) (by omega) (by rw [hz2]; omega) (by omega)
  simp only [Int.toNat_natCast] at hr
  rw [hz1, Nat.mul_one] at hr
  exact hr
theorem OwnP.madeN (w : World) (n : Nat) (hn : n ≤ maxLen) : OwnP (w.alloc (.cells (madeCells #[Value.string ⟨#[]⟩] n) 9)) w.heap.size (w.heap.size + 1) (some ⟨w.heap.size, 0, none⟩) 0 n [] :=
  ⟨rfl, World.ownsRow_made w _ n (Nat.le_refl _) hn (by simp [madeCells]), fun k hk => by cases hk; exact Nat.lt_succ_self _⟩
theorem OwnP.lohi {w : World} {lo hi n c : Nat} {A : Option Addr} {ts : List ByteArray} (h : OwnP w lo hi A n c ts) (hn : 0 < n) : lo < hi := by
  obtain ⟨g, rfl⟩ := h.some_ hn
  have := h.lt g rfl
  omega
/-- An append of one text to a row of texts in a range of blocks. -/
theorem app_textP {ops : Array Oper} {rest : List Oper} {o : Oper} {a : Act} {Q : Exit → Act → World → Prop} (w : World) (y : ByteArray) (hgd : o.guard = none) (s x : Operand)
    (ho : o.op = .call { callee := .builtin .append, args := #[s, x], argTypes := #[34, 34] })
    (lo hi n c : Nat) (T : Option Addr) (ts : List ByteArray) (hs : a.eval s = .slice T n c) (hown : OwnP w lo hi T n c ts) (hx : a.eval x = .slice (some ⟨w.heap.size, 0, none⟩) 1 1)
    (hlen : n ≤ 1000000000000) (hB : lo ≤ w.heap.size)
    (h : ∀ T' c' w' lo2 hi2, OwnP w' lo2 hi2 T' (n + 1) c' (ts ++ [y]) → Chg lo hi w w' → (lo2 = lo ∧ hi2 = hi) ∨ (w.heap.size ≤ lo2 ∧ hi2 ≤ w'.heap.size) → wpList Tryz.prog ops Q rest (a.put o.dst (.slice T' (n + 1) c')) w') :
    wpList Tryz.prog ops Q (o :: rest) a (w.alloc (.cells #[.string y] 9)) := by
  obtain ⟨rfl, hO, hhi⟩ := hown
  refine app_text_at w y hgd s x ho lo _ ts hs hO hx hlen hB ?_
  intro v' w' hO' hb hk hat hz
  obtain ⟨T', c', rfl, hP⟩ := hO'.p
  have hl : (ts ++ [y]).length = ts.length + 1 := by simp
  have hc : Chg lo hi w w' := ⟨hb.os, hb.tape, hb.output, hb.size, fun k hk1 hk2 => hk k hk1 (fun e => by
    have h1 := hhi k e
    have h2 := (World.ownsRow.lt hO k e).1
    omega)⟩
  rw [hl] at hP hat ⊢
  rcases hat with e | e
  · refine h T' c' w' lo hi ⟨hP.1, hP.2.1, fun k hk => hhi k (by rw [← e]; exact hk)⟩ hc (.inl ⟨rfl, rfl⟩)
  · refine h T' c' w' (w.heap.size + 1) (w.heap.size + 2) ?_ hc (.inr ⟨Nat.le_succ _, ?_⟩)
    · refine ⟨hP.1, ⟨hP.2.1.1, hP.2.1.2.elim .inl fun ⟨g, cap, cur, e', hg, r⟩ => .inr ⟨g, cap, cur, e', ?_, r⟩⟩, fun k hk => ?_⟩
      · rw [e'] at e
        have : g = w.heap.size + 1 := by cases e; rfl
        omega
      · rw [e] at hk
        cases hk
        omega
    · have := (hP.lt _ e).2.2
      omega
end Go.Proofs.YtoinlkdmfclnbaaGreatDoor
namespace Go.Proofs.YtoinlkdmfclnbaaGreatDoor
set_option linter.unusedVariables false
open Go.RowKit

/-- The desk and the answers of the first k lines; the desk's cells in block g. -/
def SaySt (w wr : World) (g k : Nat) (v : Value) (t : Sy) : Prop :=
  ∃ A n c P m d lo hi T C l2 h2, v = .slice T k C ∧ Two wr g (.slice A n c) (.slice P m d) ∧ OwnD wr lo hi A n c t.1 P m d t.2.1 ∧ OwnP wr l2 h2 T k C t.2.2 ∧ (g < lo ∨ hi ≤ g) ∧ (g < l2 ∨ h2 ≤ g) ∧ (hi ≤ l2 ∨ h2 ≤ lo) ∧
    w.heap.size + 2 ≤ lo ∧ hi ≤ wr.heap.size ∧ w.heap.size + 2 ≤ l2 ∧ h2 ≤ wr.heap.size ∧ l2 < h2
set_option maxRecDepth 100000 in
set_option maxHeartbeats 1600000 in
theorem deskSay_no (A P E : Option Addr) (n c m d N C : Nat) (xs : List Int) (yss : List (List Int)) (ts : List ByteArray) (w : World) (h : RdD w w.heap.size A n c xs P m d yss) (hE : RdT w w.heap.size E N C ts) (hno : deskOkB xs yss = false ∨ (deskOkB xs yss = true ∧ 40 < N)) :
    Calls Tryz.prog 17 #[.agg #[.slice A n c, .slice P m d], .slice E N C] w (SayO w [] [] []) := by
  have hm := hE.max
  have hc := hE.cap
  unfold maxLen at hm
  have hW : Below w.heap.size w ((w.alloc (.cells #[.slice A n c, .slice P m d] 26)).alloc (.cells #[.slice none 0 0, .slice none 0 0] 26)) := ((Below.refl _ _).alloc (Nat.le_refl _) _).alloc (by simp) _
  have h1 := h.up hW
  have hr := Two.made (w.alloc (.cells #[.slice A n c, .slice P m d] 26)) 26 (.slice none 0 0) (.slice none 0 0)
  simp only [World.size_alloc] at hr
  have K1 := deskOk_c A P n c m d xs yss _ h1
  rcases hno with h0 | ⟨h0, h2⟩
  all_goals
    rw [h0] at K1
    (try have h2i : (40 : Int) < (N : Int) := by omega)
    go_enter Tryz.func17, Tryz.ntmps17
    go_wp2_with fail
    generalize ((w.alloc (.cells #[.slice A n c, .slice P m d] 26)).alloc (.cells #[.slice none 0 0, .slice none 0 0] 26)) = w1 at *
    refine K1.mono ?_
    rintro e w2 ⟨rfl, hb2⟩
    have hr2 := hr.up hb2
    obtain ⟨_, r0, r1, r2, r3⟩ := id hr2
    have hB := bt hW hb2
    have hz := hb2.size
    have hend : SayO w [] [] [] (.returned (.tuple #[.agg #[.slice none 0 0, .slice none 0 0], .slice none 0 0])) ((w2.setCell ⟨w.heap.size + 1, 0, none⟩ (.slice none 0 0)).setCell ⟨w.heap.size + 1, 1, none⟩ (.slice none 0 0)) :=
      ⟨none, 0, 0, none, 0, 0, none, 0, 0, w.heap.size, w.heap.size, w.heap.size, w.heap.size, rfl, OwnD.zero_ _ _ _ (Nat.le_refl _), OwnP.nil_ _ _ _, Nat.le_refl _, by simp; have := hB.size; omega, Nat.le_refl _, by simp; have := hB.size; omega, .inl (Nat.le_refl _), Nat.le_refl _, (hB.setCell (by simp) _).setCell (by simp) _⟩
    have hT := (hr2.set0 (.slice none 0 0)).set1 (.slice none 0 0)
    have HE := Lib.hid hend
    have HT := Lib.hid hT
    clear hend hT hr2 K1 h1 hr h0
    go_wp2_with fail
    (try simp only [Exit.inBlock, Exit.then])
    refine bodyPost_ret (v := .tuple #[.agg #[.slice none 0 0, .slice none 0 0], .slice none 0 0]) ?_ rfl HE.out
    exact Eq.trans (results_two_tmp (p := 4) (u := 5) rfl _ _ (w.heap.size + 1) _ _ _ rfl HT.out Tryz.underlying26 rfl desk_size) rfl
set_option maxRecDepth 100000 in
set_option maxHeartbeats 3200000 in
theorem deskSay_yes (A P E : Option Addr) (n c m d N C : Nat) (xs : List Int) (yss : List (List Int)) (ts : List ByteArray) (w : World) (hg : Glo w) (h : RdD w w.heap.size A n c xs P m d yss) (hE : RdT w w.heap.size E N C ts) (hok : deskOkB xs yss = true) (hN : N ≤ 40) (hsh : Ln ts) :
    Calls Tryz.prog 17 #[.agg #[.slice A n c, .slice P m d], .slice E N C] w (SayO w (sayL xs yss ts).1 (sayL xs yss ts).2.1 (sayL xs yss ts).2.2) := by
  have HL := Lib.hid hE.len
  have hmE := hE.max
  have hcE := hE.cap
  unfold maxLen at hmE
  have hW : Below w.heap.size w ((w.alloc (.cells #[.slice A n c, .slice P m d] 26)).alloc (.cells #[.slice none 0 0, .slice none 0 0] 26)) := ((Below.refl _ _).alloc (Nat.le_refl _) _).alloc (by simp) _
  have h1 := h.up hW
  have hr := Two.made (w.alloc (.cells #[.slice A n c, .slice P m d] 26)) 26 (.slice none 0 0) (.slice none 0 0)
  have ha := (Two.made w 26 (.slice A n c) (.slice P m d)).alloc (.cells #[.slice none 0 0, .slice none 0 0] 26)
  have hNi : ¬ ((40 : Int) < (N : Int)) := by omega
  simp only [World.size_alloc] at hr
  have K1 := deskOk_c A P n c m d xs yss _ h1
  rw [hok] at K1
  obtain ⟨hx0, hx7, hfit⟩ := desk_fit hok
  have hln := h.1.len
  have HSH := Lib.hid hsh
  have HG := Lib.hid hg
  have HR : Hid (∀ k, k < ts.length → sayL xs yss (ts.take (k + 1)) = stepS (sayL xs yss (ts.take k)) (gT ts k)) := Lib.hid (fun k hk => sayL_succ xs yss ts hk)
  have HMK : ∀ W : World, (Instr.makeSlice 34 (.int .i64 0) (.int .i64 (N : Int))).run Tryz.prog W = .ok (.slice (some ⟨W.heap.size, 0, none⟩) 0 N) (W.alloc (.cells (madeCells #[Value.string ⟨#[]⟩] N) 9)) := fun W => makeTexts N W (by omega)
  clear hok hsh hg
  go_enter Tryz.func17, Tryz.ntmps17
  go_wp2_with fail
  generalize ((w.alloc (.cells #[.slice A n c, .slice P m d] 26)).alloc (.cells #[.slice none 0 0, .slice none 0 0] 26)) = w1 at *
  refine K1.mono ?_
  rintro e w2 ⟨rfl, hb2⟩
  have h2 := h1.up hb2
  have hr2 := hr.up hb2
  have ha2 := ha.up hb2
  have hB2 := bt hW hb2
  obtain ⟨_, a0, a1, _, _⟩ := id ha2
  clear K1 h1 hr ha hW hb2
  go_wp2_with fail
  clear a0 a1
  refine (copied_c A P n c m d xs yss _ h2 (by omega) (by omega) hfit).mono ?_
  rintro e w3 ⟨A3, n3, c3, P3, m3, d3, rfl, hO3, hb3⟩
  have hr3 := hr2.up hb3
  have hB3 := bt hB2 hb3
  have hz2 := hr2.1
  have hz3 := hb3.size
  have hbA := below_new w3 (.cells #[.slice A3 n3 c3, .slice P3 m3 d3] 26)
  have hbM := below_new (w3.alloc (.cells #[.slice A3 n3 c3, .slice P3 m3 d3] 26)) (.cells (madeCells #[Value.string ⟨#[]⟩] N) 9)
  have hT4 := (Two.made w3 26 (.slice A3 n3 c3) (.slice P3 m3 d3)).up hbM
  have hr4 := (hr3.up hbA).up hbM
  have hB4 := bt (bt hB3 hbA) hbM
  have hO4 := (hO3.up hbA).up hbM
  have hP4 := OwnP.madeN (w3.alloc (.cells #[.slice A3 n3 c3, .slice P3 m3 d3] 26)) N (by unfold maxLen; omega)
  have hzA := hbA.size
  have hzM := hbM.size
  have hz1A : (w3.alloc (.cells #[.slice A3 n3 c3, .slice P3 m3 d3] 26)).heap.size = w3.heap.size + 1 := by simp
  have hz1M : ((w3.alloc (.cells #[.slice A3 n3 c3, .slice P3 m3 d3] 26)).alloc (.cells (madeCells #[Value.string ⟨#[]⟩] N) 9)).heap.size = w3.heap.size + 2 := by simp
  rw [hz1A] at hP4
  have hst0 : SaySt w ((w3.alloc (.cells #[.slice A3 n3 c3, .slice P3 m3 d3] 26)).alloc (.cells (madeCells #[Value.string ⟨#[]⟩] N) 9)) w3.heap.size 0 (.slice (some ⟨w3.heap.size + 1, 0, none⟩) 0 N) (sayL xs yss (ts.take 0)) :=
    ⟨A3, n3, c3, P3, m3, d3, w2.heap.size, w3.heap.size, some ⟨w3.heap.size + 1, 0, none⟩, N, w3.heap.size + 1, w3.heap.size + 2, rfl, hT4, hO4, hP4, .inr (Nat.le_refl _), .inl (Nat.lt_succ_self _), .inl (Nat.le_succ _), by omega, by omega, by omega, by omega, Nat.lt_succ_self _⟩
  clear h2 hr2 ha2 hB2 hO3 hb3 hr3 hB3 hT4 hO4 hbA hbM hP4
  go_wp2_with fail
  generalize ((w3.alloc (.cells #[.slice A3 n3 c3, .slice P3 m3 d3] 26)).alloc (.cells (madeCells #[Value.string ⟨#[]⟩] N) 9)) = w4 at *
  have hG2 : w.heap.size + 2 ≤ w3.heap.size := by omega
  clear hz2 hz3 hzA hzM hz1A hz1M HMK
  generalize w3.heap.size = G at *
  go_loopw [7, 28] (fun v i wr => ∃ k : Nat, k ≤ N ∧ i = .int .i64 k ∧ SaySt w wr G k v (sayL xs yss (ts.take k)) ∧ Two wr (w.heap.size + 1) (.slice none 0 0) (.slice none 0 0) ∧ Below w.heap.size w wr) (fun _ i _ => N - (intOf i).toNat)
  case atStart => exact ⟨0, Nat.zero_le _, rfl, hst0, hr4, hB4⟩
  case round =>
    clear hst0 hr4 hB4
    obtain ⟨k, hk, rfl, hst, hrs, hbw⟩ := hrel
    obtain ⟨A5, n5, c5, P5, m5, d5, lo, hi, T5, C5, l2, h2, rfl, hT, hO, hP, hd1, hd2, hd3, hlo, hhi, hl2, hh2, hlh⟩ := hst
    by_cases hlt : k < N
    · have hkl : k < ts.length := by rw [HL.out]; exact hlt
      have HRk := Lib.hid (HR.out k hkl)
      have hsk := HSH.out k hkl
      generalize hrun : sayL xs yss (ts.take k) = T at *
      clear hrun
      obtain ⟨x1, y1, z1⟩ := T
      (try simp only at hO hP)
      obtain ⟨b, off, rfl, hb, e0⟩ := (hE.up hbw).at_ hlt
      have K := line_c A5 P5 n5 c5 m5 d5 x1 y1 (gT ts k) wr hO.rd (HG.out.up hbw) hsk
      obtain ⟨r1, r2, tt, hln⟩ : ∃ r1 r2 tt, lnX x1 y1 (gT ts k).data.toList = (r1, r2, tt) := ⟨_, _, _, rfl⟩
      have HN : Hid (stepS (x1, y1, z1) (gT ts k) = (r1, r2, z1 ++ [tt])) := Lib.hid (by unfold stepS; simp only [hln])
      rw [hln] at K
      clear hln hsk
      generalize gT ts k = S at *
      obtain ⟨hgz, t0, t1, t2, t3⟩ := id hT
      have hk0 : (0 : Int) ≤ (k : Int) := Int.natCast_nonneg _
      have hk1 : (k : Int) < (N : Int) := by omega
      have hzr := hrs.1
      go_wp2_with fail
      clear t0 t1 t2 t3 e0
      refine K.mono ?_
      clear K
      rintro e w5 ⟨A6, n6, c6, P6, m6, d6, rfl, hO6, hb6⟩
      have hT6 := hT.up hb6
      have hr6 := hrs.up hb6
      have hB6 := bt hbw hb6
      have hP6 := hP.up hb6
      have hz6 := hb6.size
      clear hT hrs hbw hO hP hb6
      have hgz5 : G < w5.heap.size := by omega
      have hch : Chg G (G + 1) w5 ((w5.setCell ⟨G, 0, none⟩ (.slice A6 n6 c6)).setCell ⟨G, 1, none⟩ (.slice P6 m6 d6)) :=
        ((Chg.refl _ _ _).setCell (p := ⟨G, 0, none⟩) (Nat.le_refl _) (Nat.lt_succ_self _) _).setCell (p := ⟨G, 1, none⟩) (Nat.le_refl _) (Nat.lt_succ_self _) _
      have hbM := below_new ((w5.setCell ⟨G, 0, none⟩ (.slice A6 n6 c6)).setCell ⟨G, 1, none⟩ (.slice P6 m6 d6)) (.cells #[.slice A6 n6 c6, .slice P6 m6 d6] 26)
      have HT8 := Lib.hid (((hT6.set0 (.slice A6 n6 c6)).set1 (.slice P6 m6 d6)).up hbM)
      have HR8 := Lib.hid ((hr6.chg hch (.inl (by omega))).up hbM)
      have HB8 := Lib.hid (bt (hB6.trans (hch.belowLo (B := w.heap.size) (by omega) (by omega))) hbM)
      have HO8 := Lib.hid ((hO6.chg hch (.inr (by omega))).up hbM)
      have HP8 := Lib.hid ((hP6.chg hch (by omega)).up hbM)
      have hz9 := hbM.size
      have hz8 := hch.size
      have hzW : (((w5.setCell ⟨G, 0, none⟩ (.slice A6 n6 c6)).setCell ⟨G, 1, none⟩ (.slice P6 m6 d6)).alloc (.cells #[.slice A6 n6 c6, .slice P6 m6 d6] 26)).heap.size = w5.heap.size + 1 := by simp
      obtain ⟨_, x60, x61, x62, x63⟩ := id hT6
      clear hbM hch hT6 hr6 hB6 hO6 hP6
      go_wp2_with (at_builtin; refine app_textP (((w5.setCell ⟨G, 0, none⟩ (.slice A6 n6 c6)).setCell ⟨G, 1, none⟩ (.slice P6 m6 d6)).alloc (.cells #[.slice A6 n6 c6, .slice P6 m6 d6] 26)) tt rfl _ _ rfl l2 h2 k C5 T5 z1 rfl HP8.out (by rw [hzW]; rfl) (by omega) (by omega) ?_; intro T9 C9 w9 lo9 hi9 hP9 hc9 hor9)
      have hz10 := hc9.size
      go_roundw
      case rel => exact ⟨k + 1, by omega, by go_num, by rw [HRk.out, HN.out]; exact ⟨A6, n6, c6, P6, m6, d6, _, _, T9, C9, lo9, hi9, rfl, HT8.out.chg hc9 (by omega), HO8.out.chg hc9 (by omega), hP9, by omega, by omega, by omega, by omega, by omega, by omega, by omega, hP9.lohi (Nat.succ_pos _)⟩, HR8.out.chg hc9 (by omega), HB8.out.trans (hc9.belowLo (B := w.heap.size) (by omega) (by omega))⟩
      case measure => simp [intOf]; omega
    · have hkN : k = N := by omega
      have HQ : Hid (sayL xs yss (ts.take k) = sayL xs yss ts) := Lib.hid (by rw [List.take_of_length_le (by rw [HL.out]; omega)])
      rw [HQ.out] at hO hP
      have hzr := hrs.1
      have hch : Chg (w.heap.size + 1) (w.heap.size + 2) wr ((wr.setCell ⟨w.heap.size + 1, 0, none⟩ (.slice A5 n5 c5)).setCell ⟨w.heap.size + 1, 1, none⟩ (.slice P5 m5 d5)) :=
        ((Chg.refl _ _ wr).setCell (p := ⟨w.heap.size + 1, 0, none⟩) (by simp) (by simp) _).setCell (p := ⟨w.heap.size + 1, 1, none⟩) (by simp) (by simp) _
      have hzc := hch.size
      have hend : SayO w (sayL xs yss ts).1 (sayL xs yss ts).2.1 (sayL xs yss ts).2.2 (.returned (.tuple #[.agg #[.slice A5 n5 c5, .slice P5 m5 d5], .slice T5 k C5])) ((wr.setCell ⟨w.heap.size + 1, 0, none⟩ (.slice A5 n5 c5)).setCell ⟨w.heap.size + 1, 1, none⟩ (.slice P5 m5 d5)) :=
        ⟨A5, n5, c5, P5, m5, d5, T5, k, C5, lo, hi, l2, h2, rfl, hO.chg hch (.inr (by omega)), hP.chg hch (by omega), by omega, by omega, by omega, by omega, hd3, Nat.le_of_lt hlh, hbw.trans (hch.belowLo (B := w.heap.size) (by omega) (by omega))⟩
      have hTe := (hrs.set0 (.slice A5 n5 c5)).set1 (.slice P5 m5 d5)
      obtain ⟨_, t0, t1, _, _⟩ := id hT
      obtain ⟨_, s0, s1, s2, s3⟩ := id hrs
      have HE := Lib.hid hend
      have HT := Lib.hid hTe
      clear hend hTe hch hO hP
      go_wp2_with fail
      (try simp only [Exit.inBlock, Exit.then])
      refine bodyPost_ret (v := .tuple #[.agg #[.slice A5 n5 c5, .slice P5 m5 d5], .slice T5 k C5]) ?_ rfl HE.out
      exact Eq.trans (results_two_tmp (p := 4) (u := 5) rfl _ _ (w.heap.size + 1) _ _ _ rfl HT.out Tryz.underlying26 rfl desk_size) rfl
end Go.Proofs.YtoinlkdmfclnbaaGreatDoor
namespace Go.Proofs.YtoinlkdmfclnbaaGreatDoor
set_option linter.unusedVariables false
open Go.RowKit

/-- A line's outcome: the desk in a block g, in new rows; the answer. -/
def CutL (wj wx : World) (s6 s7 : Value) (r1 : List Int) (r2 : List (List Int)) (t : ByteArray) : Prop :=
  ∃ g A n c P m d, s6 = .pointer (some ⟨g, 0, none⟩) ∧ s7 = .string t ∧ Two wx g (.slice A n c) (.slice P m d) ∧ Below wj.heap.size wj wx ∧ RdD wx wx.heap.size A n c r1 P m d r2 ∧ FreshD wx wj.heap.size A n c P m d
section
variable {wj wx : World} {A P : Option Addr} {n c m d L : Nat} {r1 : List Int} {r2 : List (List Int)} {t : ByteArray}
theorem cutL_last (hb : Below wj.heap.size wj wx) (h : RdD wx wx.heap.size A n c r1 P m d r2) (hF : FreshD wx L A n c P m d) (hL : wj.heap.size ≤ L) : CutL wj (wx.alloc (.cells #[.slice A n c, .slice P m d] 26)) (.pointer (some ⟨wx.heap.size, 0, none⟩)) (.string t) r1 r2 t :=
  ⟨_, _, _, _, _, _, _, rfl, rfl, Two.made wx _ _ _, bt hb (below_new _ _), ⟨h.1.up (below_new _ _), h.2.up (below_new _ _)⟩, (hF.upF h (below_new _ _)).more hL⟩
theorem cutL_early (hb : Below wj.heap.size wj wx) (h : RdD wx wx.heap.size A n c r1 P m d r2) (hF : FreshD wx L A n c P m d) (hL : wj.heap.size + 1 ≤ L) (hg : Two wx wj.heap.size (.slice none 0 0) (.slice none 0 0)) :
    CutL wj ((wx.setCell ⟨wj.heap.size, 0, none⟩ (.slice A n c)).setCell ⟨wj.heap.size, 1, none⟩ (.slice P m d)) (.pointer (some ⟨wj.heap.size, 0, none⟩)) (.string t) r1 r2 t := by
  have hg1 := hg.set0 (.slice A n c)
  have hch : Chg wj.heap.size (wj.heap.size + 1) wx ((wx.setCell ⟨wj.heap.size, 0, none⟩ (.slice A n c)).setCell ⟨wj.heap.size, 1, none⟩ (.slice P m d)) :=
    ((Chg.refl _ _ wx).setCell (p := ⟨wj.heap.size, 0, none⟩) (Nat.le_refl _) (Nat.lt_succ_self _) _).setCell (p := ⟨wj.heap.size, 1, none⟩) (Nat.le_refl _) (Nat.lt_succ_self _) _
  exact ⟨wj.heap.size, A, n, c, P, m, d, rfl, rfl, hg1.set1 _, (hb.setCell (Nat.le_refl _) _).setCell (Nat.le_refl _) _, h.chgF hF hch hL, (hF.chgF h hch hL).more (by omega)⟩
end
/-- the desk and the answers of the first k lines; the desk, in block g, is only read -/
def SaySr (w wr : World) (g k : Nat) (v : Value) (t : Sy) : Prop :=
  ∃ A n c P m d T C l2 h2, v = .slice T k C ∧ Two wr g (.slice A n c) (.slice P m d) ∧ RdD wr wr.heap.size A n c t.1 P m d t.2.1 ∧ (∀ q, (Value.slice P m d).ownBlock = some q → q ≠ g) ∧ OwnP wr l2 h2 T k C t.2.2 ∧ (g < l2 ∨ h2 ≤ g) ∧
    w.heap.size + 2 ≤ l2 ∧ h2 ≤ wr.heap.size ∧ l2 < h2
set_option maxRecDepth 100000 in
set_option maxHeartbeats 1600000 in
theorem sDeskSay_no (A P E : Option Addr) (n c m d N C : Nat) (xs : List Int) (yss : List (List Int)) (ts : List ByteArray) (w : World) (h : RdD w w.heap.size A n c xs P m d yss) (hE : RdT w w.heap.size E N C ts) (hno : deskOkB xs yss = false ∨ (deskOkB xs yss = true ∧ 40 < N)) :
    Calls Tryz.prog 18 #[.agg #[.slice A n c, .slice P m d], .slice E N C] w (SayR w [] [] []) := by
  have hm := hE.max
  have hc := hE.cap
  unfold maxLen at hm
  have hW : Below w.heap.size w (((w.alloc (.cells #[.slice A n c, .slice P m d] 26)).alloc (.cells #[.slice none 0 0, .slice none 0 0] 26)).alloc (.cells #[] 9)) := (((Below.refl _ _).alloc (Nat.le_refl _) _).alloc (by simp) _).alloc (by simp; omega) _
  have h1 : RdD (((w.alloc (.cells #[.slice A n c, .slice P m d] 26)).alloc (.cells #[.slice none 0 0, .slice none 0 0] 26)).alloc (.cells #[] 9)) (((w.alloc (.cells #[.slice A n c, .slice P m d] 26)).alloc (.cells #[.slice none 0 0, .slice none 0 0] 26)).alloc (.cells #[] 9)).heap.size A n c xs P m d yss := ⟨h.1.up hW, h.2.up hW⟩
  have hr := (Two.made (w.alloc (.cells #[.slice A n c, .slice P m d] 26)) 26 (.slice none 0 0) (.slice none 0 0)).alloc (.cells #[] 9)
  simp only [World.size_alloc] at hr
  have K1 := sDeskOk_c A P n c m d xs yss _ h1
  rcases hno with h0 | ⟨h0, h2⟩
  all_goals
    rw [h0] at K1
    (try have h2i : (40 : Int) < (N : Int) := by omega)
    go_enter Tryz.func18, Tryz.ntmps18
    go_wp2_with fail
    generalize (((w.alloc (.cells #[.slice A n c, .slice P m d] 26)).alloc (.cells #[.slice none 0 0, .slice none 0 0] 26)).alloc (.cells #[] 9)) = w1 at *
    refine K1.mono ?_
    rintro e w2 ⟨rfl, hb2⟩
    have hr2 := hr.up hb2
    obtain ⟨_, r0, r1, r2, r3⟩ := id hr2
    have hB := bt hW hb2
    have hz := hb2.size
    have hend : SayR w [] [] [] (.returned (.tuple #[.agg #[.slice none 0 0, .slice none 0 0], .slice (some ⟨w.heap.size + 2, 0, none⟩) 0 0])) ((w2.setCell ⟨w.heap.size + 1, 0, none⟩ (.slice none 0 0)).setCell ⟨w.heap.size + 1, 1, none⟩ (.slice none 0 0)) :=
      ⟨none, 0, 0, none, 0, 0, some ⟨w.heap.size + 2, 0, none⟩, 0, 0, rfl, ⟨Rd.nil_ _ _, RdR.nil_ _ _⟩, ⟨rfl, Nat.le_refl _, Nat.zero_le _, fun h => absurd h (Nat.lt_irrefl _)⟩, (hB.setCell (by simp) _).setCell (by simp) _⟩
    have hT := (hr2.set0 (.slice none 0 0)).set1 (.slice none 0 0)
    have HE := Lib.hid hend
    have HT := Lib.hid hT
    clear hend hT hr2 K1 h1 hr h0
    go_wp2_with fail
    (try simp only [Exit.inBlock, Exit.then])
    refine bodyPost_ret (v := .tuple #[.agg #[.slice none 0 0, .slice none 0 0], .slice (some ⟨w.heap.size + 2, 0, none⟩) 0 0]) ?_ rfl HE.out
    exact Eq.trans (results_two_tmp (p := 4) (u := 5) rfl _ _ (w.heap.size + 1) _ _ _ rfl HT.out Tryz.underlying26 rfl desk_size) rfl
set_option maxRecDepth 100000 in
set_option maxHeartbeats 3200000 in
theorem sDeskSay_yes (A P E : Option Addr) (n c m d N C : Nat) (xs : List Int) (yss : List (List Int)) (ts : List ByteArray) (w : World) (h : RdD w w.heap.size A n c xs P m d yss) (hE : RdT w w.heap.size E N C ts) (hok : deskOkB xs yss = true) (hN : N ≤ 40) (hsh : Ln ts) :
    Calls Tryz.prog 18 #[.agg #[.slice A n c, .slice P m d], .slice E N C] w (SayR w (sayL xs yss ts).1 (sayL xs yss ts).2.1 (sayL xs yss ts).2.2) := by
  have HL := Lib.hid hE.len
  have hm := hE.max
  have hc := hE.cap
  unfold maxLen at hm
  have hW : Below w.heap.size w (((w.alloc (.cells #[.slice A n c, .slice P m d] 26)).alloc (.cells #[.slice none 0 0, .slice none 0 0] 26)).alloc (.cells #[] 9)) := (((Below.refl _ _).alloc (Nat.le_refl _) _).alloc (by simp) _).alloc (by simp; omega) _
  have h1 : RdD (((w.alloc (.cells #[.slice A n c, .slice P m d] 26)).alloc (.cells #[.slice none 0 0, .slice none 0 0] 26)).alloc (.cells #[] 9)) (((w.alloc (.cells #[.slice A n c, .slice P m d] 26)).alloc (.cells #[.slice none 0 0, .slice none 0 0] 26)).alloc (.cells #[] 9)).heap.size A n c xs P m d yss := ⟨h.1.up hW, h.2.up hW⟩
  have hr := (Two.made (w.alloc (.cells #[.slice A n c, .slice P m d] 26)) 26 (.slice none 0 0) (.slice none 0 0)).alloc (.cells #[] 9)
  simp only [World.size_alloc] at hr
  have K1 := sDeskOk_c A P n c m d xs yss _ h1
  have ha := ((Two.made w 26 (.slice A n c) (.slice P m d)).alloc (.cells #[.slice none 0 0, .slice none 0 0] 26)).alloc (.cells #[] 9)
  have hp1 : OwnP (((w.alloc (.cells #[.slice A n c, .slice P m d] 26)).alloc (.cells #[.slice none 0 0, .slice none 0 0] 26)).alloc (.cells #[] 9)) (w.heap.size + 2) (w.heap.size + 3) (some ⟨w.heap.size + 2, 0, none⟩) 0 0 [] := by
    have h9 : World.ownsRow (((w.alloc (.cells #[.slice A n c, .slice P m d] 26)).alloc (.cells #[.slice none 0 0, .slice none 0 0] 26)).alloc (.cells #[] 9)) ((w.alloc (.cells #[.slice A n c, .slice P m d] 26)).alloc (.cells #[.slice none 0 0, .slice none 0 0] 26)).heap.size 9 1 (.slice (some ⟨((w.alloc (.cells #[.slice A n c, .slice P m d] 26)).alloc (.cells #[.slice none 0 0, .slice none 0 0] 26)).heap.size, 0, none⟩) 0 0) 0 [] := World.ownsRow_made ((w.alloc (.cells #[.slice A n c, .slice P m d] 26)).alloc (.cells #[.slice none 0 0, .slice none 0 0] 26)) #[] 0 (Nat.le_refl _) (Nat.zero_le _) (by simp)
    have e9 : ((w.alloc (.cells #[.slice A n c, .slice P m d] 26)).alloc (.cells #[.slice none 0 0, .slice none 0 0] 26)).heap.size = w.heap.size + 2 := by simp
    rw [e9] at h9
    exact ⟨rfl, h9, fun k hk => by cases hk; exact Nat.lt_succ_self _⟩
  have hz1 : (((w.alloc (.cells #[.slice A n c, .slice P m d] 26)).alloc (.cells #[.slice none 0 0, .slice none 0 0] 26)).alloc (.cells #[] 9)).heap.size = w.heap.size + 3 := by simp
  have hNi : ¬ ((40 : Int) < (N : Int)) := by omega
  rw [hok] at K1
  obtain ⟨hx0, hx7, hfit⟩ := desk_fit hok
  have hln := h.1.len
  have HSH := Lib.hid hsh
  have HR : Hid (∀ k, k < ts.length → sayL xs yss (ts.take (k + 1)) = stepS (sayL xs yss (ts.take k)) (gT ts k)) := Lib.hid (fun k hk => sayL_succ xs yss ts hk)
  have HST : Hid (∀ k, deskOkB (sayL xs yss (ts.take k)).1 (sayL xs yss (ts.take k)).2.1 = true) := Lib.hid (fun k => sayL_ok _ hok)
  clear hok hsh
  go_enter Tryz.func18, Tryz.ntmps18
  go_wp2_with fail
  generalize (((w.alloc (.cells #[.slice A n c, .slice P m d] 26)).alloc (.cells #[.slice none 0 0, .slice none 0 0] 26)).alloc (.cells #[] 9)) = w1 at *
  refine K1.mono ?_
  rintro e w2 ⟨rfl, hb2⟩
  have h2 : RdD w2 w2.heap.size A n c xs P m d yss := ⟨h1.1.up hb2, h1.2.up hb2⟩
  have hr2 := hr.up hb2
  have ha2 := ha.up hb2
  have hp2 := hp1.up hb2
  have hB2 := bt hW hb2
  have hz2' := hb2.size
  obtain ⟨_, a0, a1, _, _⟩ := id ha2
  clear K1 h1 hr ha hW hb2 hp1
  go_wp2_with fail
  clear a0 a1
  refine (sCopy_c A P n c m d xs yss _ h2 (by omega) (by omega) hfit).mono ?_
  rintro e w3 ⟨A3, n3, c3, P3, m3, d3, rfl, hO3, hb3⟩
  have hr3 := hr2.up hb3
  have hB3 := bt hB2 hb3
  have hz2 := hr2.1
  have hz3 := hb3.size
  have hbA := below_new w3 (.cells #[.slice A3 n3 c3, .slice P3 m3 d3] 26)
  have hT4 := Two.made w3 26 (.slice A3 n3 c3) (.slice P3 m3 d3)
  have hr4 := hr3.up hbA
  have hB4 := bt hB3 hbA
  have hO4 := hO3.up hbA
  have hp4 := (hp2.up hb3).up hbA
  have hzA := hbA.size
  have hst0 : SaySr w (w3.alloc (.cells #[.slice A3 n3 c3, .slice P3 m3 d3] 26)) w3.heap.size 0 (.slice (some ⟨w.heap.size + 2, 0, none⟩) 0 0) (sayL xs yss (ts.take 0)) :=
    ⟨A3, n3, c3, P3, m3, d3, _, 0, w.heap.size + 2, w.heap.size + 3, rfl, hT4, hO4.rd, fun q hq => by
      obtain ⟨mid, h5, h6, _, vs, gs, hv, hb, _⟩ := hO3
      have := hb q hq
      omega, hp4, by omega, Nat.le_refl _, by omega, Nat.lt_succ_self _⟩
  clear h2 hr2 ha2 hB2 hO3 hb3 hr3 hB3 hT4 hO4 hbA hp2 hp4
  go_wp2_with fail
  generalize w3.alloc (.cells #[.slice A3 n3 c3, .slice P3 m3 d3] 26) = w4 at *
  have hG2 : w.heap.size + 3 ≤ w3.heap.size := by omega
  clear hz2 hz3 hzA hz2' hz1
  generalize w3.heap.size = G at *
  go_loopw [6, 8] (fun v i wr => ∃ k : Nat, k ≤ N ∧ i = .int .i64 k ∧ SaySr w wr G k v (sayL xs yss (ts.take k)) ∧ Two wr (w.heap.size + 1) (.slice none 0 0) (.slice none 0 0) ∧ Below w.heap.size w wr) (fun _ i _ => N - (intOf i).toNat)
  case atStart => exact ⟨0, Nat.zero_le _, rfl, hst0, hr4, hB4⟩
  case round =>
    clear hst0 hr4 hB4
    obtain ⟨k, hk, rfl, hst, hrs, hbw⟩ := hrel
    obtain ⟨A5, n5, c5, P5, m5, d5, T5, C5, l2, h2, rfl, hT, hO, hne, hP, hd2, hl2, hh2, hlh⟩ := hst
    by_cases hlt : k < N
    · have hkl : k < ts.length := by rw [HL.out]; exact hlt
      have HRk := Lib.hid (HR.out k hkl)
      have hsk := HSH.out k hkl
      generalize hrun : sayL xs yss (ts.take k) = T at *
      clear hrun
      obtain ⟨x1, y1, z1⟩ := T
      (try simp only at hO hP)
      obtain ⟨b, off, rfl, hb, e0⟩ := (hE.up hbw).at_ hlt
      have hbE : b < wr.heap.size := hb
      have K := fun W hW => sLine_c A5 P5 n5 c5 m5 d5 x1 y1 (gT ts k) W hW hsk
      obtain ⟨r1, r2, tt, hln⟩ : ∃ r1 r2 tt, lnX x1 y1 (gT ts k).data.toList = (r1, r2, tt) := ⟨_, _, _, rfl⟩
      have HN : Hid (stepS (x1, y1, z1) (gT ts k) = (r1, r2, z1 ++ [tt])) := Lib.hid (by unfold stepS; simp only [hln])
      rw [hln] at K
      clear hln hsk
      generalize gT ts k = S at *
      have hgz := hT.1
      have hk0 : (0 : Int) ≤ (k : Int) := Int.natCast_nonneg _
      have hk1 : (k : Int) < (N : Int) := by omega
      have hzr := hrs.1
      go_upto_region 8 with fail
      go_cut [9, 10] from 24 to 43 (fun s9 s10 wx => CutL wr wx s9 s10 r1 r2 tt)
      case first =>
        have y0 : World.cell? wr.drew ⟨G, 0, none⟩ = some (.slice A5 n5 c5) ∧ World.cell? wr.drew ⟨G, 1, none⟩ = some (.slice P5 m5 d5) ∧ World.cell? wr.drew ⟨b, off + k, none⟩ = some (.string S) := ⟨hT.2.1, hT.2.2.1, e0⟩
        obtain ⟨p0, p1, p2⟩ := id y0
        have hOd : RdD wr.drew wr.drew.heap.size A5 n5 c5 x1 P5 m5 d5 y1 := ⟨hO.1.dn 1, hO.2.dn 1⟩
        have hzd : wr.heap.size ≤ wr.drew.heap.size := Nat.le_refl _
        have hGd : G < wr.drew.heap.size := hgz
        have hbd : b < wr.drew.heap.size := hbE
        have KA0 : Hid (∀ o, World.cell? (wr.drew.alloc o) ⟨G, 0, none⟩ = some (.slice A5 n5 c5) ∧ World.cell? (wr.drew.alloc o) ⟨G, 1, none⟩ = some (.slice P5 m5 d5) ∧ World.cell? (wr.drew.alloc o) ⟨b, off + k, none⟩ = some (.string S)) := Lib.hid (fun o => ⟨((below_new wr.drew o).cell (p := ⟨G, 0, none⟩) hGd).trans p0, ((below_new wr.drew o).cell (p := ⟨G, 1, none⟩) hGd).trans p1, ((below_new wr.drew o).cell (p := ⟨b, off + k, none⟩) hbd).trans p2⟩)
        have YS := Lib.hid y0
        clear y0 hT hrs hO e0 hP
        go_region_held3 (fun w' => World.cell? w' ⟨G, 0, none⟩ = some (.slice A5 n5 c5) ∧ World.cell? w' ⟨G, 1, none⟩ = some (.slice P5 m5 d5) ∧ World.cell? w' ⟨b, off + k, none⟩ = some (.string S))
          (first
            | exact YS.out
            | exact KA0.out _
            | exact Y5.out
            | exact KA5.out _
            | exact KF.out _ _)
          (first
            | (go_at_call 10; refine (K _ (by first | exact hOd | exact ⟨hOd.1.up (below_new _ _), hOd.2.up (below_new _ _)⟩)).mono ?_; rintro e w5 ⟨A6, n6, c6, P6, m6, d6, rfl, h5, hfr5, hx5⟩; have hb5 : Below wr.drew.heap.size wr.drew w5 := (by first | exact hx5 | exact below_of_alloc hx5); (try have tz5 : Two w5 wr.heap.size (.slice none 0 0) (.slice none 0 0) := (Two.made wr.drew _ _ _).up hx5); have hz5 := hb5.size; have Y5 := Lib.hid (show World.cell? w5 ⟨G, 0, none⟩ = some (.slice A5 n5 c5) ∧ World.cell? w5 ⟨G, 1, none⟩ = some (.slice P5 m5 d5) ∧ World.cell? w5 ⟨b, off + k, none⟩ = some (.string S) from ⟨(hb5.cell (p := ⟨G, 0, none⟩) hGd).trans p0, (hb5.cell (p := ⟨G, 1, none⟩) hGd).trans p1, (hb5.cell (p := ⟨b, off + k, none⟩) hbd).trans p2⟩); have hG5 : G < w5.heap.size := (by omega); have hb59 : b < w5.heap.size := (by omega); obtain ⟨i0, i1, i2⟩ := Y5.out; have KA5 : Hid (∀ o, World.cell? (w5.alloc o) ⟨G, 0, none⟩ = some (.slice A5 n5 c5) ∧ World.cell? (w5.alloc o) ⟨G, 1, none⟩ = some (.slice P5 m5 d5) ∧ World.cell? (w5.alloc o) ⟨b, off + k, none⟩ = some (.string S)) := Lib.hid (fun o => ⟨((below_new w5 o).cell (p := ⟨G, 0, none⟩) hG5).trans i0, ((below_new w5 o).cell (p := ⟨G, 1, none⟩) hG5).trans i1, ((below_new w5 o).cell (p := ⟨b, off + k, none⟩) hb59).trans i2⟩); have KF : Hid (∀ u v, World.cell? ((w5.setCell ⟨wr.heap.size, 0, none⟩ u).setCell ⟨wr.heap.size, 1, none⟩ v) ⟨G, 0, none⟩ = some (.slice A5 n5 c5) ∧ World.cell? ((w5.setCell ⟨wr.heap.size, 0, none⟩ u).setCell ⟨wr.heap.size, 1, none⟩ v) ⟨G, 1, none⟩ = some (.slice P5 m5 d5) ∧ World.cell? ((w5.setCell ⟨wr.heap.size, 0, none⟩ u).setCell ⟨wr.heap.size, 1, none⟩ v) ⟨b, off + k, none⟩ = some (.string S)) := Lib.hid (fun u v => ⟨farc (by omega) i0, farc (by omega) i1, farc (by omega) i2⟩); clear i0 i1 i2 hx5; (try obtain ⟨_, z0, z1q, z2, z3⟩ := id tz5)))
        all_goals
          go_wp2_with fail
          go_meet
          first
            | exact cutL_last (show Below wr.heap.size wr w5 from bt (bd (Below.refl wr.heap.size wr) 1) hb5) h5 hfr5 (by first | exact Nat.le_refl _ | (rw [World.size_alloc]; exact Nat.le_succ _))
            | exact cutL_early (show Below wr.heap.size wr w5 from bt (bd (Below.refl wr.heap.size wr) 1) hb5) h5 hfr5 (Nat.le_of_eq (World.size_alloc wr (.cells #[.slice none 0 0, .slice none 0 0] 26)).symm) tz5
      case rest =>
        obtain ⟨g8, A6, n6, c6, P6, m6, d6, rfl, rfl, hT8, hb8, hD8, hF8⟩ := hcut
        have hT6 := hT.up hb8
        have hr6 := hrs.up hb8
        have hB6 := bt hbw hb8
        have hP6 := hP.up hb8
        have hz8 := hb8.size
        obtain ⟨_, v0, v1, v2, v3⟩ := id hT6
        obtain ⟨_, u0, u1, _, _⟩ := id hT8
        clear e0 K hb8 hT hrs hO hP
        have hch : Chg G (G + 1) wc ((wc.setCell ⟨G, 0, none⟩ (.slice A6 n6 c6)).setCell ⟨G, 1, none⟩ (.slice P6 m6 d6)) :=
          ((Chg.refl _ _ _).setCell (p := ⟨G, 0, none⟩) (Nat.le_refl _) (Nat.lt_succ_self _) _).setCell (p := ⟨G, 1, none⟩) (Nat.le_refl _) (Nat.lt_succ_self _) _
        have hPG : ∀ q, (Value.slice P6 m6 d6).ownBlock = some q → q ≠ G := fun q hq => by have := hF8.2.1 q hq; omega
        have HT9 := Lib.hid ((hT6.set0 (.slice A6 n6 c6)).set1 (.slice P6 m6 d6))
        have HR9 := Lib.hid (hr6.chg hch (.inl (by omega)))
        have HB9 := Lib.hid (hB6.trans (hch.belowLo (B := w.heap.size) (by omega) (by omega)))
        have HO9 := Lib.hid (hD8.chgF hF8 hch (by omega))
        have HF9 := Lib.hid (hF8.chgF hD8 hch (by omega))
        have HP9 := Lib.hid (hP6.chg hch (by omega))
        have HPG := Lib.hid hPG
        have hz9 := hch.size
        have hzW : ((wc.setCell ⟨G, 0, none⟩ (.slice A6 n6 c6)).setCell ⟨G, 1, none⟩ (.slice P6 m6 d6)).heap.size = wc.heap.size := by simp
        clear hch hT6 hr6 hB6 hP6 hPG hD8 hF8 hT8
        go_wp2_with (at_builtin; refine app_textP ((wc.setCell ⟨G, 0, none⟩ (.slice A6 n6 c6)).setCell ⟨G, 1, none⟩ (.slice P6 m6 d6)) tt rfl _ _ rfl l2 h2 k C5 T5 z1 rfl HP9.out (by rw [hzW]; rfl) (by omega) (by omega) ?_; intro T9 C9 w9 lo9 hi9 hP9 hc9 hor9)
        have hz10 := hc9.size
        go_roundw
        case rel => exact ⟨k + 1, by omega, by go_num, by rw [HRk.out, HN.out]; exact ⟨A6, n6, c6, P6, m6, d6, T9, C9, lo9, hi9, rfl, HT9.out.chg hc9 (by omega), HO9.out.chgF HF9.out hc9 (by omega), HPG.out, hP9, by omega, by omega, by omega, hP9.lohi (Nat.succ_pos _)⟩, HR9.out.chg hc9 (by omega), HB9.out.trans (hc9.belowLo (B := w.heap.size) (by omega) (by omega))⟩
        case measure => simp [intOf]; omega
    · have hkN : k = N := by omega
      have HQ : Hid (sayL xs yss (ts.take k) = sayL xs yss ts) := Lib.hid (by rw [List.take_of_length_le (by rw [HL.out]; omega)])
      have hokE := HST.out k
      rw [HQ.out] at hO hP hokE
      have hzr := hrs.1
      have hgs := hrs.set0 (.slice A5 n5 c5)
      have hf0 := fun k hk => ((desk_fit hokE).2.2.2 k hk).1
      have hch : Chg (w.heap.size + 1) (w.heap.size + 2) wr ((wr.setCell ⟨w.heap.size + 1, 0, none⟩ (.slice A5 n5 c5)).setCell ⟨w.heap.size + 1, 1, none⟩ (.slice P5 m5 d5)) :=
        ((Chg.refl _ _ wr).setCell (p := ⟨w.heap.size + 1, 0, none⟩) (by simp) (by simp) _).setCell (p := ⟨w.heap.size + 1, 1, none⟩) (by simp) (by simp) _
      have hend : SayR w (sayL xs yss ts).1 (sayL xs yss ts).2.1 (sayL xs yss ts).2.2 (.returned (.tuple #[.agg #[.slice A5 n5 c5, .slice P5 m5 d5], .slice T5 k C5])) ((wr.setCell ⟨w.heap.size + 1, 0, none⟩ (.slice A5 n5 c5)).setCell ⟨w.heap.size + 1, 1, none⟩ (.slice P5 m5 d5)) := by
        refine ⟨A5, n5, c5, P5, m5, d5, T5, k, C5, rfl, ?_, (hP.chg hch (by omega)).rd, hbw.trans (hch.belowLo (B := w.heap.size) (by omega) (by omega))⟩
        rw [show ((wr.setCell ⟨w.heap.size + 1, 0, none⟩ (.slice A5 n5 c5)).setCell ⟨w.heap.size + 1, 1, none⟩ (.slice P5 m5 d5)).heap.size = wr.heap.size by simp]
        exact ⟨(hO.1.set_ hrs.2.1 _).set_ hgs.2.2.1 _, (hO.2.set_ hf0 hrs.2.1 _).set_ hf0 hgs.2.2.1 _⟩
      have hTe := hgs.set1 (.slice P5 m5 d5)
      obtain ⟨_, t0, t1, _, _⟩ := id hT
      obtain ⟨_, s0, s1, s2, s3⟩ := id hrs
      have HE := Lib.hid hend
      have HT := Lib.hid hTe
      clear hend hTe hch hO hP hkN hgs hokE hf0
      go_wp2_with fail
      (try simp only [Exit.inBlock, Exit.then])
      refine bodyPost_ret (v := .tuple #[.agg #[.slice A5 n5 c5, .slice P5 m5 d5], .slice T5 k C5]) ?_ rfl HE.out
      exact Eq.trans (results_two_tmp (p := 4) (u := 5) rfl _ _ (w.heap.size + 1) _ _ _ rfl HT.out Tryz.underlying26 rfl desk_size) rfl
/-- DeskSay, both. -/
theorem deskSay_any (xs : List Int) (yss : List (List Int)) (ts : List ByteArray) (hsh : Ln ts) :
    ∃ (r1 : List Int) (r2 : List (List Int)) (zs : List ByteArray), (r1.length ≤ 7 ∧ r2.length ≤ 8 ∧ tot r2 ≤ 56 ∧ Rows0 r2 ∧ zs.length ≤ 40) ∧ (r1, r2, zs) = sayX xs yss ts ∧
      (∀ A n c P k d E N C w, RdD w w.heap.size A n c xs P k d yss → RdT w w.heap.size E N C ts → Calls Tryz.prog 18 #[.agg #[.slice A n c, .slice P k d], .slice E N C] w (SayR w r1 r2 zs)) ∧
      (∀ A n c P k d E N C w, RdD w w.heap.size A n c xs P k d yss → RdT w w.heap.size E N C ts → Glo w → Calls Tryz.prog 17 #[.agg #[.slice A n c, .slice P k d], .slice E N C] w (SayO w r1 r2 zs)) := by
  refine ⟨(sayX xs yss ts).1, (sayX xs yss ts).2.1, (sayX xs yss ts).2.2, sayX_sizes xs yss ts, rfl, ?_⟩
  rcases hok : deskOkB xs yss with _ | _
  · have e : sayX xs yss ts = ([], [], []) := by unfold sayX sayB; rw [hok]; rfl
    rw [e]
    exact ⟨fun A n c P k d E N C w h hE => sDeskSay_no A P E n c k d N C xs yss ts w h hE (.inl hok), fun A n c P k d E N C w h hE hg => deskSay_no A P E n c k d N C xs yss ts w h hE (.inl hok)⟩
  · by_cases h40 : ts.length ≤ 40
    · have e : sayX xs yss ts = sayL xs yss ts := by unfold sayX sayB; rw [hok, decide_eq_true h40]; rfl
      rw [e]
      exact ⟨fun A n c P k d E N C w h hE => sDeskSay_yes A P E n c k d N C xs yss ts w h hE hok (by rw [← hE.len]; exact h40) hsh, fun A n c P k d E N C w h hE hg => deskSay_yes A P E n c k d N C xs yss ts w hg h hE hok (by rw [← hE.len]; exact h40) hsh⟩
    · have e : sayX xs yss ts = ([], [], []) := by unfold sayX sayB; rw [hok, decide_eq_false h40]; rfl
      rw [e]
      exact ⟨fun A n c P k d E N C w h hE => sDeskSay_no A P E n c k d N C xs yss ts w h hE (.inr ⟨hok, by have := hE.len; omega⟩), fun A n c P k d E N C w h hE hg => deskSay_no A P E n c k d N C xs yss ts w h hE (.inr ⟨hok, by have := hE.len; omega⟩)⟩
end Go.Proofs.YtoinlkdmfclnbaaGreatDoor
