/- Bundle VM. -/
import Derived.Deep.RegionHeld3
import Derived.Test.YtoinlkdmfclnbaaGreatDoorYM24
import Derived.Test.YtoinlkdmfclnbaaGreatDoorYM25
import Derived.Test.YtoinlkdmfclnbaaGreatDoorYV14
import Derived.Test.YtoinlkdmfclnbaaGreatDoorYV15
import Derived.Test.YtoinlkdmfclnbaaGreatDoorYV16
import Derived.Test.YtoinlkdmfclnbaaGreatDoorYV18
import Derived.Test.YtoinlkdmfclnbaaGreatDoorYVD
import Derived.Test.YtoinlkdmfclnbaaGreatDoorYVF
import Derived.Test.YtoinlkdmfclnbaaGreatDoorYVI
import Derived.Test.YtoinlkdmfclnbaaGreatDoorYW158
namespace Go.Proofs.YtoinlkdmfclnbaaGreatDoor
set_option linter.unusedVariables false
section
open Go.RowKit
def OwnP (w : World) (lo hi : Nat) (A : Option Addr) (n c : Nat) (ts : List ByteArray) : Prop :=
 ts.length = n ∧ w.ownsRow lo 9 1 (.slice A n c) n (ts.map Value.string) ∧ ∀ k, (Value.slice A n c).ownBlock = some k → k < hi
section
variable {lo hi lo' hi' B n c g : Nat} {w w' : World} {A : Option Addr} {ts : List ByteArray} {v : Value}
theorem OwnP.nil_ (w : World) (lo hi : Nat) : OwnP w lo hi none 0 0 [] := ⟨rfl, World.ownsRow_nil _ _ _ _, fun k hk => by cases hk⟩
theorem OwnP.lt (h : OwnP w lo hi A n c ts) : ∀ k, (Value.slice A n c).ownBlock = some k → lo ≤ k ∧ k < hi ∧ k < w.heap.size := fun k hk => ⟨(h.2.1.lt k hk).1, h.2.2 k hk, (h.2.1.lt k hk).2⟩
theorem OwnP.keep (h : OwnP w lo hi A n c ts) (hk : ∀ k, lo ≤ k → k < hi → k < w.heap.size → w'.heap[k]? = w.heap[k]?) : OwnP w' lo hi A n c ts :=
 ⟨h.1, ownsRow_keep h.2.1 h.2.2 hk, h.2.2⟩
theorem OwnP.up (h : OwnP w lo hi A n c ts) (hb : Below w.heap.size w w') : OwnP w' lo hi A n c ts := h.keep fun k _ _ h3 => hb.block k h3
theorem OwnP.chg (h : OwnP w lo hi A n c ts) (hc : Chg lo' hi' w w') (hd : hi ≤ lo' ∨ hi' ≤ lo) : OwnP w' lo hi A n c ts := h.keep fun k _ _ h3 => hc.block k h3 (by omega)
theorem OwnP.some_ (h : OwnP w lo hi A n c ts) (hn : 0 < n) : ∃ g, A = some ⟨g, 0, none⟩ := by
 rcases h.2.1.2 with ⟨e, h0⟩ | ⟨g, cap, cur, e, _⟩
 · omega
 · cases e; exact ⟨g, rfl⟩
theorem OwnP.cell (h : OwnP w lo hi (some ⟨g, 0, none⟩) n c ts) {k : Nat} (hk : k < n) : w.cell? ⟨g, k, none⟩ = some (.string (gT ts k)) := by
 rw [h.2.1.cellAt k (by omega)]
 have hl := h.1
 simp [gT, List.getD, List.getElem?_eq_getElem (show k < ts.length by omega)]
theorem OwnP.rd (h : OwnP w lo hi A n c ts) : RdT w w.heap.size A n c ts := by
 rcases h.2.1.2 with ⟨e, rfl⟩ | ⟨g, cap, cur, e, hb, hg, hnc, hcm, hcs, ht⟩
 · cases e
   exact ⟨h.1, Nat.le_refl _, Nat.zero_le _, fun h => absurd h (by omega)⟩
 · cases e
   exact ⟨h.1, hnc, hcm, fun _ => ⟨g, 0, rfl, (Array.getElem?_eq_some_iff.1 hg).1, fun k hk => by rw [Nat.zero_add]; exact h.cell hk⟩⟩
theorem OwnS.p (h : OwnS w B v ts) : ∃ A c, v = .slice A ts.length c ∧ OwnP w B w.heap.size A ts.length c ts := by
 obtain ⟨A, c, rfl, _⟩ := h.slice_
 exact ⟨A, c, rfl, rfl, h, fun k hk => (h.lt k hk).2⟩
end
theorem eq_of_gT {ts us : List ByteArray} (hl : ts.length = us.length) (h : ∀ j, j < ts.length → gT ts j = gT us j) : ts = us := by
 apply List.ext_getElem hl
 intro j h1 h2
 have := h j h1
 rwa [gT_get h1, gT_get h2] at this
def eqTs (ts us : List ByteArray) : Bool := decide (ts = us)
theorem eqTs_self (ts : List ByteArray) : eqTs ts ts = true := decide_eq_true rfl
set_option maxRecDepth 100000 in
set_option maxHeartbeats 1600000 in
theorem eqStringS_c (A A' : Option Addr) (n c n' c' : Nat) (ts us : List ByteArray) (w : World) (h : RdT w w.heap.size A n c ts) (h' : RdT w w.heap.size A' n' c' us) :
    Calls Tryz.prog 25 #[.slice A n c, .slice A' n' c'] w fun e w' => e = .returned (.bool (eqTs ts us)) ∧ Below w.heap.size w w' := by
 have HL := Lib.hid h.len
 have HL' := Lib.hid h'.len
 have hm := h.max
 have hc := h.cap
 have hm' := h'.max
 have hc' := h'.cap
 unfold maxLen at hm hm'
 by_cases hne : n = n'
 · subst hne
   go_enter Tryz.func25, Tryz.ntmps25
   go_wp2
   go_loopw [5] (fun i wr => ∃ k : Nat, k ≤ n ∧ i = .int .i64 k ∧ (∀ j, j < k → gT ts j = gT us j) ∧ Below w.heap.size w wr) (fun i _ => n - (intOf i).toNat)
   case atStart => exact ⟨0, Nat.zero_le _, rfl, fun j hj => absurd hj (Nat.not_lt_zero _), Below.refl _ _⟩
   case round =>
    obtain ⟨k, hk, rfl, hall, hbw⟩ := hrel
    have HA := Lib.hid hall
    clear hall
    by_cases hlt : k < n
    · obtain ⟨b, off, rfl, hb, c0⟩ := ((h.up hbw).dn 1).at_ hlt
      obtain ⟨b', off', rfl, hb', d0⟩ := ((h'.up hbw).dn 1).at_ hlt
      have hp0 : (0 : Int) ≤ (k : Int) := Int.natCast_nonneg _
      have hp1 : (k : Int) < (n : Int) := by omega
      have HB := Lib.hid (show Below w.heap.size w wr.drew from bd hbw 1)
      clear hbw
      by_cases he : gT ts k = gT us k
      · have HE : Hid (∀ j, j = k → gT ts j = gT us j) := Lib.hid (fun j e => by rw [e]; exact he)
        rw [← he] at d0
        clear he
        generalize gT ts k = T at *
        go_wp2
        go_region_held3 (fun w' => w'.cell? ⟨b, off + k, none⟩ = some (.string T) ∧ w'.cell? ⟨b', off' + k, none⟩ = some (.string T))
         (exact ⟨c0, d0⟩)
         (fail)
        go_wp2_with fail
        go_roundw
        case rel => exact ⟨k + 1, by omega, by go_num, fun j hj => by
               rcases Nat.lt_or_ge j k with h' | h'
               · exact HA.out j h'
               · exact HE.out j (by omega), HB.out⟩
        case measure => simp [intOf]; omega
      · have HE := Lib.hid (show eqTs ts us = false from decide_eq_false (fun e => he (by rw [e])))
        have qT : ((gT ts k).toList == (gT us k).toList) = false := beqF (fun h => he (by rw [← bl_of (gT ts k), ← bl_of (gT us k), ← ByteArray.toList_eq, ← ByteArray.toList_eq, h]))
        clear he
        generalize gT ts k = T at *
        generalize gT us k = U at *
        go_wp2
        go_region_held3 (fun w' => w'.cell? ⟨b, off + k, none⟩ = some (.string T) ∧ w'.cell? ⟨b', off' + k, none⟩ = some (.string U))
         (exact ⟨c0, d0⟩)
         (fail)
        go_wp2_with fail
        go_ret
        exact ⟨boolEnd HE.out.symm, HB.out⟩
    · go_wp2
      go_ret
      exact ⟨boolEnd (decide_eq_true (eq_of_gT (by rw [HL.out, HL'.out]) (fun j hj => HA.out j (by have := HL.out; omega)))).symm, hbw⟩
 · have hq : ((n : Int) != (n' : Int)) = true := by simp; omega
   go_enter Tryz.func25, Tryz.ntmps25
   go_wp2
   go_ret
   exact ⟨boolEnd (decide_eq_false (fun e => hne (by rw [← HL.out, ← HL'.out, e]))).symm, Below.refl _ _⟩
set_option maxRecDepth 100000 in
set_option maxHeartbeats 1600000 in
theorem sameTexts_c (A A' : Option Addr) (n c n' c' : Nat) (ts us : List ByteArray) (w : World) (h : RdT w w.heap.size A n c ts) (h' : RdT w w.heap.size A' n' c' us) :
    Calls Tryz.prog 19 #[.slice A n c, .slice A' n' c'] w fun e w' => e = .returned (.bool (eqTs ts us)) ∧ Below w.heap.size w w' := by
 have HL := Lib.hid h.len
 have HL' := Lib.hid h'.len
 have hm := h.max
 have hc := h.cap
 have hm' := h'.max
 have hc' := h'.cap
 unfold maxLen at hm hm'
 by_cases hne : n = n'
 · subst hne
   go_enter Tryz.func19, Tryz.ntmps19
   go_wp2
   go_loopw [5] (fun i wr => ∃ k : Nat, k ≤ n ∧ i = .int .i64 k ∧ (∀ j, j < k → gT ts j = gT us j) ∧ Below w.heap.size w wr) (fun i _ => n - (intOf i).toNat)
   case atStart => exact ⟨0, Nat.zero_le _, rfl, fun j hj => absurd hj (Nat.not_lt_zero _), Below.refl _ _⟩
   case round =>
    obtain ⟨k, hk, rfl, hall, hbw⟩ := hrel
    have HA := Lib.hid hall
    clear hall
    by_cases hlt : k < n
    · obtain ⟨b, off, rfl, hb, c0⟩ := ((h.up hbw).dn 1).at_ hlt
      obtain ⟨b', off', rfl, hb', d0⟩ := ((h'.up hbw).dn 1).at_ hlt
      have hp0 : (0 : Int) ≤ (k : Int) := Int.natCast_nonneg _
      have hp1 : (k : Int) < (n : Int) := by omega
      have HB := Lib.hid (show Below w.heap.size w wr.drew from bd hbw 1)
      clear hbw
      by_cases he : gT ts k = gT us k
      · have HE : Hid (∀ j, j = k → gT ts j = gT us j) := Lib.hid (fun j e => by rw [e]; exact he)
        rw [← he] at d0
        clear he
        generalize gT ts k = T at *
        go_wp2
        go_region_held3 (fun w' => w'.cell? ⟨b, off + k, none⟩ = some (.string T) ∧ w'.cell? ⟨b', off' + k, none⟩ = some (.string T))
         (exact ⟨c0, d0⟩)
         (fail)
        go_wp2_with fail
        go_roundw
        case rel => exact ⟨k + 1, by omega, by go_num, fun j hj => by
               rcases Nat.lt_or_ge j k with h' | h'
               · exact HA.out j h'
               · exact HE.out j (by omega), HB.out⟩
        case measure => simp [intOf]; omega
      · have HE := Lib.hid (show eqTs ts us = false from decide_eq_false (fun e => he (by rw [e])))
        have qT : ((gT ts k).toList == (gT us k).toList) = false := beqF (fun h => he (by rw [← bl_of (gT ts k), ← bl_of (gT us k), ← ByteArray.toList_eq, ← ByteArray.toList_eq, h]))
        clear he
        generalize gT ts k = T at *
        generalize gT us k = U at *
        go_wp2
        go_region_held3 (fun w' => w'.cell? ⟨b, off + k, none⟩ = some (.string T) ∧ w'.cell? ⟨b', off' + k, none⟩ = some (.string U))
         (exact ⟨c0, d0⟩)
         (fail)
        go_wp2_with fail
        go_ret
        exact ⟨boolEnd HE.out.symm, HB.out⟩
    · go_wp2
      go_ret
      exact ⟨boolEnd (decide_eq_true (eq_of_gT (by rw [HL.out, HL'.out]) (fun j hj => HA.out j (by have := HL.out; omega)))).symm, hbw⟩
 · have hq : ((n : Int) != (n' : Int)) = true := by simp; omega
   go_enter Tryz.func19, Tryz.ntmps19
   go_wp2
   go_ret
   exact ⟨boolEnd (decide_eq_false (fun e => hne (by rw [← HL.out, ← HL'.out, e]))).symm, Below.refl _ _⟩
end
section
structure Idem (g : List Nat) : Prop where
 map : MapN g
 two : ∀ k, k < g.length → nx g (nx g k) = nx g k
theorem idem_pow {f : List Nat} (hf : MapN f) : Idem (powN f 27720) := ⟨powN_map hf _, fun k hk => by
 rw [powN_len] at hk
 rw [nx_powN hk, nx_powN (it_lt hf hk _), ← it_add]
 have h1 := tl_lt hf hk
 have h7 := hf.le7
 have hl1 := ll_pos hf hk
 have hl7 : ll f k ≤ 7 := by have := wl_le hf hk; unfold ll; omega
 obtain ⟨q, hq⟩ := Nat.dvd_trans (dvd420 hl1 hl7) (show 420 ∣ 27720 by decide)
 have h := it_rounds hf hk 27720 (by omega) q
 have e : q * ll f k = 27720 := by rw [Nat.mul_comm]; exact hq.symm
 rw [e] at h
 exact h⟩
section
variable {g : List Nat}
theorem Idem.wl2 (h : Idem g) {k : Nat} (hk : k < g.length) : wl g k ≤ 2 := by
 have hw := wl_isWay h.map hk
 rcases Nat.lt_or_ge 2 (wl g k) with h3 | h3
 · have e : it g 1 k = it g 2 k := (h.two k hk).symm
   have := orb_inj hw.nodup (a := 1) (b := 2) (by omega) (by omega) e
   omega
 · exact h3
theorem Idem.tl1 (h : Idem g) {k : Nat} (hk : k < g.length) : tl g k ≤ 1 := by
 have := (tl_is h.map hk).1
 have := h.wl2 hk
 omega
theorem Idem.idx (h : Idem g) : idxN g = 1 := by
 have := hiK_all (f := g) (m := 1) g.length (fun k hk => h.tl1 hk)
 unfold idxN; omega
theorem Idem.loop1 (h : Idem g) {k : Nat} (hk : k < g.length) (hl : lo g k = k) : wl g k = 1 := by
 have ho := onL_of_lo h.map hk hl
 unfold onL at ho
 rw [beq_iff_eq] at ho
 have hw := wl_isWay h.map hk
 have h2 := h.wl2 hk
 have ht := (tl_is h.map hk).2
 rw [ho] at ht
 have h1 := hw.pos
 rcases (show wl g k = 1 ∨ wl g k = 2 by omega) with e | e
 · exact e
 · rw [e] at ht
   have e2 : it g 2 k = it g 1 k := h.two k hk
   have := orb_inj hw.nodup (a := 0) (b := 1) (by omega) (by omega) (ht.trans e2)
   omega
theorem perK_one {xss : List (List Int)} (h : ∀ k, k < xss.length → (gR xss k).length = 1) : ∀ k, k ≤ xss.length → perK xss k = 1
 | 0, _ => rfl
 | k + 1, hk => by
  show Nat.lcm (perK xss k) (gR xss k).length = 1
  rw [perK_one h k (by omega), h k (by omega)]
  rfl
theorem Idem.per (h : Idem g) : perN g = 1 := perK_one (fun k hk => by
    obtain ⟨j, hj, hl, e⟩ := loopsN_row hk
    rw [e, ints_len, way, orb_len]
    exact h.loop1 hj hl) _ (Nat.le_refl _)
end
def lnPower : List UInt8 := [112, 111, 119, 101, 114, 32, 50, 55, 55, 50, 48]
theorem dec_27720 : Lib.decDigits 27720 = [50, 55, 55, 50, 48] := by
 decide +kernel
theorem rd_power : rdV lnPower = ((2, 27720, 0, []), true) := by
 refine rdV_yes (by decide) ?_
 unfold dtL
 simp
 rw [dec_27720]
 rfl
theorem rd_index : rdV (qW 1) = ((0, 0, 0, []), false) := by decide
theorem rd_period : rdV (qW 2) = ((0, 0, 0, []), false) := by decide
theorem qIx_index : qIx (qW 1) = some 1 := by decide
theorem qIx_period : qIx (qW 2) = some 2 := by decide
theorem lnX_settled {xs : List Int} {yss : List (List Int)} (h : deskOkB xs yss = true) :
    ∃ g, Idem g ∧ (lnX xs yss lnPower).1 = ints g ∧ deskOkB (lnX xs yss lnPower).1 (lnX xs yss lnPower).2.1 = true := by
 rw [lnX_deed h rd_power]
 obtain ⟨f, rfl, hf⟩ := mapOk_ex (desk_parts h).1
 refine ⟨powN f 27720, idem_pow hf, ?_, doX_desk _ _ _ _ h⟩
 have hm : madeI (ints f) 2 27720 0 (bl []) = ints (powN f 27720) := by
  rw [made_bare (by rfl), chg_2]
  exact powI_ok (t := 27720) hf (by decide)
 have hb : backB yss 2 27720 0 (bl []) = false := rfl
 rcases hs : stayB (ints f) 2 27720 0 (bl []) with _ | _
 · rw [do_go h hb hs]; exact hm
 · rw [do_stay h hb hs]
   unfold stayB at hs
   rw [Bool.or_eq_true, decide_eq_true_eq, decide_eq_true_eq, hm] at hs
   rcases hs with e | e
   · exfalso
     have h1 := congrArg List.length e
     rw [ints_len, powN_len] at h1
     have h2 := hf.pos
     rw [h1] at h2
     exact absurd h2 (Nat.lt_irrefl 0)
   · exact e.symm
theorem lnX_index {g : List Nat} (hg : Idem g) {yss : List (List Int)} (h : deskOkB (ints g) yss = true) : lnX (ints g) yss (qW 1) = (ints g, yss, ⟨#[49]⟩) := by
 rw [lnX_ask h rd_index]
 unfold lineT
 rw [qIx_index]
 show (ints g, yss, bl (Lib.decDigits (idxN g))) = _
 rw [hg.idx, Lib.decDigits_one (by decide)]
 rfl
theorem lnX_period {g : List Nat} (hg : Idem g) {yss : List (List Int)} (h : deskOkB (ints g) yss = true) : lnX (ints g) yss (qW 2) = (ints g, yss, ⟨#[49]⟩) := by
 rw [lnX_ask h rd_period]
 unfold lineT
 rw [qIx_period]
 show (ints g, yss, bl (Lib.decDigits (perN g))) = _
 rw [hg.per, Lib.decDigits_one (by decide)]
 rfl
theorem decN_ne (n : Nat) : Lib.decDigits n ≠ [] := by
 rw [Lib.decDigits]
 split
 · simp
 · simp
theorem join_ne {ts : List Tx} {s : Tx} (h0 : ts ≠ []) (h : ∀ t ∈ ts, t ≠ []) : Lib.join ts s ≠ [] := by
 cases ts with
 | nil => exact absurd rfl h0
 | cons x r =>
  rw [Lib.join_cons]
  intro e
  exact h x (by simp) (List.append_eq_nil_iff.1 e).1
theorem digT_ne {l : List Nat} (h : 0 < l.length) : digT l ≠ [] := fun e => by
 have h1 := congrArg List.length e
 rw [digT_len] at h1
 rw [h1] at h
 exact absurd h (Nat.lt_irrefl 0)
theorem wayN_pos {f : List Nat} (hf : MapN f) {k : Nat} (hk : k < f.length) : 0 < (way f k).length := by
 rw [way, orb_len]; exact (wl_isWay hf hk).pos
theorem reps_ne {f : List Nat} (hf : MapN f) : repsN f f.length ≠ [] := by
 have h0 := hf.pos
 obtain ⟨s, hs⟩ := lo_reach hf h0
 have hl := lo_it hf h0 s
 rw [hs] at hl
 have hm : lo f 0 ∈ repsN f f.length := by
  unfold repsN
  rw [List.mem_filter, List.mem_range, decide_eq_true_eq]
  exact ⟨lo_lt hf h0, hl⟩
 intro e
 rw [e] at hm
 simp at hm
theorem reps_lt {f : List Nat} {r : Nat} (h : r ∈ repsN f f.length) : r < f.length := by
 unfold repsN at h
 rw [List.mem_filter, List.mem_range] at h
 exact h.1
theorem treeN_ne (f : List Nat) {k : Nat} (hk : 0 < k) (i : Nat) : treeT f k i ≠ [] := by
 cases k with
 | zero => omega
 | succ k =>
  show [40] ++ Lib.join (srt ((kids f i).map (treeT f k))) [] ++ [41] ≠ []
  simp
theorem loopT_ne {f : List Nat} (hf : MapN f) {i : Nat} (hi : i < f.length) : loopT f i ≠ [] := by
 unfold loopT
 obtain ⟨j, e, _⟩ := minK_at (loopTs f i) (loopTs f i).length
 rw [e]
 have hts : ∀ t ∈ loopTs f i, t ≠ [] := fun t ht => by
  unfold loopTs at ht
  rw [List.mem_map] at ht
  obtain ⟨a, _, rfl⟩ := ht
  exact treeN_ne f hf.pos a
 have hne : loopTs f i ≠ [] := fun e => by
  have := congrArg List.length e
  unfold loopTs at this
  rw [List.length_map] at this
  have h2 := wayN_pos hf (lo_lt hf hi)
  simp at this
  rw [this] at h2
  simp at h2
 intro e2
 unfold rot at e2
 rw [join_flat, join_flat] at e2
 obtain ⟨h1, h2⟩ := List.append_eq_nil_iff.1 e2
 rw [List.flatten_eq_nil_iff] at h1 h2
 obtain ⟨t, ht⟩ := List.exists_mem_of_ne_nil _ hne
 rw [← List.take_append_drop j (loopTs f i), List.mem_append] at ht
 rcases ht with ht | ht
 · exact hts t (List.mem_of_mem_take ht) (h2 t ht)
 · exact hts t (List.mem_of_mem_drop ht) (h1 t ht)
theorem ask_ne {f : List Nat} (hf : MapN f) : ∀ k, ask f k ≠ []
 | 0 => digT_ne hf.pos
 | 1 => decN_ne _
 | 2 => decN_ne _
 | 3 => by
  show Lib.join ((repsN f f.length).map (fun r => digT (way f r))) [44] ≠ []
  refine join_ne (fun e => reps_ne hf (List.map_eq_nil_iff.1 e)) (fun t ht => ?_)
  rw [List.mem_map] at ht
  obtain ⟨r, hr, rfl⟩ := ht
  exact digT_ne (wayN_pos hf (reps_lt hr))
 | 4 => by
  show Lib.join (srt ((repsN f f.length).map (loopT f))) [43] ≠ []
  refine join_ne (fun e => ?_) (fun t ht => ?_)
  · have := congrArg List.length e
    rw [srt_len, List.length_map] at this
    exact reps_ne hf (List.eq_nil_of_length_eq_zero (by simpa using this))
  · rw [srt_mem, List.mem_map] at ht
    obtain ⟨r, hr, rfl⟩ := ht
    exact loopT_ne hf (reps_lt hr)
 | 5 => decN_ne _
 | 6 => decN_ne _
 | 7 => decN_ne _
 | 8 => decN_ne _
 | k + 9 => by
  show codeTx f ≠ []
  unfold codeTx
  split
  · simp
  · simp
theorem lineT_ne {f : List Nat} (hf : MapN f) (l : List UInt8) : lineT f l ≠ [] := by
 unfold lineT
 split
 · exact ask_ne hf _
 · split
   · unfold wayT
     split
     · rename_i h; exact digT_ne (wayN_pos hf h)
     · simp [noneT]
   · simp [whatT]
theorem bl_ne {l : List UInt8} (h : l ≠ []) : bl l ≠ ⟨#[]⟩ := fun e => h (by
 have := congrArg (fun b : ByteArray => b.data.toList) e
 simpa [bl] using this)
theorem lnX_ne {xs : List Int} {yss : List (List Int)} (l : List UInt8) (h : deskOkB xs yss = true) : (lnX xs yss l).2.2 ≠ ⟨#[]⟩ := by
 obtain ⟨f, rfl, hf⟩ := mapOk_ex (desk_parts h).1
 unfold lnX
 rw [h]
 simp only [if_true]
 split
 · show okT _ ≠ _
   unfold okT
   split
   · intro e; cases e
   · intro e; cases e
 · rw [toN_ints]; exact bl_ne (lineT_ne hf l)
end
section
open Go.RowKit
abbrev Sy := List Int × List (List Int) × List ByteArray
def stepS (t : Sy) (s : ByteArray) : Sy := ((lnX t.1 t.2.1 s.data.toList).1, (lnX t.1 t.2.1 s.data.toList).2.1, t.2.2 ++ [(lnX t.1 t.2.1 s.data.toList).2.2])
def sayL (xs : List Int) (yss : List (List Int)) (ts : List ByteArray) : Sy := ts.foldl stepS (xs, yss, [])
def sayB (xs : List Int) (yss : List (List Int)) (ts : List ByteArray) : Bool := deskOkB xs yss && decide (ts.length ≤ 40)
def sayX (xs : List Int) (yss : List (List Int)) (ts : List ByteArray) : Sy := if sayB xs yss ts then sayL xs yss ts else ([], [], [])
theorem sayL_succ (xs : List Int) (yss : List (List Int)) (ts : List ByteArray) {k : Nat} (h : k < ts.length) : sayL xs yss (ts.take (k + 1)) = stepS (sayL xs yss (ts.take k)) (gT ts k) := by
 unfold sayL
 rw [List.take_succ_eq_append_getElem h, List.foldl_append, gT_get h]; rfl
theorem lnX_ok {xs : List Int} {yss : List (List Int)} (l : List UInt8) (h : deskOkB xs yss = true) : deskOkB (lnX xs yss l).1 (lnX xs yss l).2.1 = true := by
 unfold lnX
 rw [h]
 simp only [if_true]
 split
 · exact doX_desk _ _ _ _ h
 · exact h
theorem sayF_ok : ∀ (ts : List ByteArray) (t : Sy), deskOkB t.1 t.2.1 = true → deskOkB (ts.foldl stepS t).1 (ts.foldl stepS t).2.1 = true
 | [], _, h => h
 | s :: r, t, h => sayF_ok r (stepS t s) (lnX_ok _ h)
theorem sayL_ok {xs : List Int} {yss : List (List Int)} (ts : List ByteArray) (h : deskOkB xs yss = true) : deskOkB (sayL xs yss ts).1 (sayL xs yss ts).2.1 = true := sayF_ok ts _ h
theorem sayF_len : ∀ (ts : List ByteArray) (t : Sy), (ts.foldl stepS t).2.2.length = t.2.2.length + ts.length
 | [], _ => rfl
 | s :: r, t => by
  have h := sayF_len r (stepS t s)
  have e : (stepS t s).2.2.length = t.2.2.length + 1 := by unfold stepS; simp
  show (r.foldl stepS (stepS t s)).2.2.length = t.2.2.length + (r.length + 1)
  omega
theorem sayL_len (xs : List Int) (yss : List (List Int)) (ts : List ByteArray) : (sayL xs yss ts).2.2.length = ts.length := by
 have h := sayF_len ts (xs, yss, [])
 exact h.trans (Nat.zero_add _)
theorem sayF_add : ∀ (ts : List ByteArray) (t : Sy) (p : List ByteArray), ts.foldl stepS (t.1, t.2.1, p ++ t.2.2) = ((ts.foldl stepS t).1, (ts.foldl stepS t).2.1, p ++ (ts.foldl stepS t).2.2)
 | [], _, _ => rfl
 | s :: r, t, p => by
  rw [List.foldl_cons, List.foldl_cons]
  have e : stepS (t.1, t.2.1, p ++ t.2.2) s = ((stepS t s).1, (stepS t s).2.1, p ++ (stepS t s).2.2) := by unfold stepS; simp [List.append_assoc]
  rw [e]
  exact sayF_add r (stepS t s) p
theorem sayL_two (xs : List Int) (yss : List (List Int)) (ts : List ByteArray) (h : Nat) :
    sayL xs yss ts = ((sayL (sayL xs yss (ts.take h)).1 (sayL xs yss (ts.take h)).2.1 (ts.drop h)).1, (sayL (sayL xs yss (ts.take h)).1 (sayL xs yss (ts.take h)).2.1 (ts.drop h)).2.1,
     (sayL xs yss (ts.take h)).2.2 ++ (sayL (sayL xs yss (ts.take h)).1 (sayL xs yss (ts.take h)).2.1 (ts.drop h)).2.2) := by
 unfold sayL
 have e := sayF_add (ts.drop h) (((ts.take h).foldl stepS (xs, yss, [])).1, ((ts.take h).foldl stepS (xs, yss, [])).2.1, []) ((ts.take h).foldl stepS (xs, yss, [])).2.2
 rw [← e]
 simp only [List.append_nil]
 rw [← List.foldl_append, List.take_append_drop]
theorem sayF_ne : ∀ (ts : List ByteArray) (t : Sy), deskOkB t.1 t.2.1 = true → (∀ s ∈ t.2.2, s ≠ (⟨#[]⟩ : ByteArray)) → ∀ s ∈ (ts.foldl stepS t).2.2, s ≠ (⟨#[]⟩ : ByteArray)
 | [], _, _, h => h
 | s :: r, t, h, ha => sayF_ne r (stepS t s) (lnX_ok _ h) (fun x hx => by
  have hx' : x ∈ t.2.2 ++ [(lnX t.1 t.2.1 s.data.toList).2.2] := hx
  rw [List.mem_append, List.mem_singleton] at hx'
  rcases hx' with hx' | rfl
  · exact ha x hx'
  · exact lnX_ne _ h)
theorem sayL_ne {xs : List Int} {yss : List (List Int)} (ts : List ByteArray) (h : deskOkB xs yss = true) : ∀ s ∈ (sayL xs yss ts).2.2, s ≠ (⟨#[]⟩ : ByteArray) := sayF_ne ts _ h (fun s hs => by cases hs)
theorem sayX_two {xs : List Int} {yss : List (List Int)} {ts : List ByteArray} (h : Nat) (hok : deskOkB xs yss = true) (h40 : ts.length ≤ 40) :
    ∃ r1 r2 a1 s1 s2 a2, sayX xs yss (ts.take h) = (r1, r2, a1) ∧ sayX r1 r2 (ts.drop h) = (s1, s2, a2) ∧ sayX xs yss ts = (s1, s2, a1 ++ a2) ∧ deskOkB s1 s2 = true ∧ (∀ s ∈ a1 ++ a2, s ≠ (⟨#[]⟩ : ByteArray)) ∧ (a1 ++ a2).length = ts.length := by
 have k1 : sayB xs yss (ts.take h) = true := by unfold sayB; rw [hok, Bool.true_and, decide_eq_true_eq, List.length_take]; omega
 have k3 : sayB xs yss ts = true := by unfold sayB; rw [hok, Bool.true_and, decide_eq_true_eq]; exact h40
 have hok1 := sayL_ok (ts.take h) hok
 have k2 : sayB (sayL xs yss (ts.take h)).1 (sayL xs yss (ts.take h)).2.1 (ts.drop h) = true := by unfold sayB; rw [hok1, Bool.true_and, decide_eq_true_eq, List.length_drop]; omega
 have e := sayL_two xs yss ts h
 have hne := sayL_ne ts hok
 have hln := sayL_len xs yss ts
 have hk := sayL_ok ts hok
 rw [e] at hne hln hk
 have x1 : sayX xs yss (ts.take h) = sayL xs yss (ts.take h) := by unfold sayX; rw [k1]; rfl
 have x2 : sayX (sayL xs yss (ts.take h)).1 (sayL xs yss (ts.take h)).2.1 (ts.drop h) = sayL (sayL xs yss (ts.take h)).1 (sayL xs yss (ts.take h)).2.1 (ts.drop h) := by unfold sayX; rw [k2]; rfl
 have x3 : sayX xs yss ts = sayL xs yss ts := by unfold sayX; rw [k3]; rfl
 exact ⟨(sayL xs yss (ts.take h)).1, (sayL xs yss (ts.take h)).2.1, (sayL xs yss (ts.take h)).2.2, _, _, _, x1, x2, x3.trans e, hk, hne, hln⟩
theorem sayX_sizes (xs : List Int) (yss : List (List Int)) (ts : List ByteArray) : (sayX xs yss ts).1.length ≤ 7 ∧ (sayX xs yss ts).2.1.length ≤ 8 ∧ tot (sayX xs yss ts).2.1 ≤ 56 ∧ Rows0 (sayX xs yss ts).2.1 ∧ (sayX xs yss ts).2.2.length ≤ 40 := by
 unfold sayX
 split
 · rename_i hb
   unfold sayB at hb
   rw [Bool.and_eq_true, decide_eq_true_eq] at hb
   have h2 := sayL_ok ts hb.1
   have h3 := desk_fit h2
   have h4 := desk_parts h2
   exact ⟨h3.2.1, h4.2.1, tot_fit h3.2.2 h4.2.1, fun k hk => (h3.2.2.2 k hk).1, by rw [sayL_len]; exact hb.2⟩
 · exact ⟨by simp, by simp, by simp [tot], fun k hk => by simp at hk, by simp⟩
section
variable {w w' : World} {B n c lo hi : Nat} {A : Option Addr} {ts : List ByteArray}
end
def Ln (ts : List ByteArray) : Prop := ∀ k, k < ts.length → (gT ts k).size ≤ 2000000
def SayO (w : World) (r1 : List Int) (r2 : List (List Int)) (zs : List ByteArray) (e : Ending) (w' : World) : Prop :=
 ∃ A n c P k d T N C l1 h1 l2 h2, e = .returned (.tuple #[.agg #[.slice A n c, .slice P k d], .slice T N C]) ∧ OwnD w' l1 h1 A n c r1 P k d r2 ∧ OwnP w' l2 h2 T N C zs ∧
  w.heap.size ≤ l1 ∧ h1 ≤ w'.heap.size ∧ w.heap.size ≤ l2 ∧ h2 ≤ w'.heap.size ∧ (h1 ≤ l2 ∨ h2 ≤ l1) ∧ l2 ≤ h2 ∧ Below w.heap.size w w'
def SayR (w : World) (r1 : List Int) (r2 : List (List Int)) (zs : List ByteArray) (e : Ending) (w' : World) : Prop :=
 ∃ A n c P k d T N C, e = .returned (.tuple #[.agg #[.slice A n c, .slice P k d], .slice T N C]) ∧ RdD w' w'.heap.size A n c r1 P k d r2 ∧ RdT w' w'.heap.size T N C zs ∧ Below w.heap.size w w'
theorem makeTexts (n : Nat) (w : World) (hn : n ≤ 1000000) :
    (Instr.makeSlice 34 (.int .i64 0) (.int .i64 (n : Int))).run Tryz.prog w = .ok (.slice (some ⟨w.heap.size, 0, none⟩) 0 n) (w.alloc (.cells (madeCells #[Value.string ⟨#[]⟩] n) 9)) := by
 obtain ⟨i0, hi, hz0, hz1, hz2⟩ := info_parts text_info
 have hr := run_make (P := Tryz.prog) w 34 9 i0 (.string ⟨#[]⟩) Tryz.underlying34 hi hz0 .i64 .i64 0 (n : Int) (by omega) (by omega) (by rw [hz2]; omega) (by omega)
 simp only [Int.toNat_natCast] at hr
 rw [hz1, Nat.mul_one] at hr
 exact hr
theorem OwnP.madeN (w : World) (n : Nat) (hn : n ≤ maxLen) : OwnP (w.alloc (.cells (madeCells #[Value.string ⟨#[]⟩] n) 9)) w.heap.size (w.heap.size + 1) (some ⟨w.heap.size, 0, none⟩) 0 n [] :=
 ⟨rfl, World.ownsRow_made w _ n (Nat.le_refl _) hn (by simp [madeCells]), fun k hk => by cases hk; exact Nat.lt_succ_self _⟩
theorem OwnP.lohi {w : World} {lo hi n c : Nat} {A : Option Addr} {ts : List ByteArray} (h : OwnP w lo hi A n c ts) (hn : 0 < n) : lo < hi := by
 obtain ⟨g, rfl⟩ := h.some_ hn
 have := h.lt g rfl
 omega
theorem app_textP {ops : Array Oper} {rest : List Oper} {o : Oper} {a : Act} {Q : Exit → Act → World → Prop} (w : World) (y : ByteArray) (hgd : o.guard = none) (s x : Operand)
    (ho : o.op = .call { callee := .builtin .append, args := #[s, x], argTypes := #[34, 34] })
    (lo hi n c : Nat) (T : Option Addr) (ts : List ByteArray) (hs : a.eval s = .slice T n c) (hown : OwnP w lo hi T n c ts) (hx : a.eval x = .slice (some ⟨w.heap.size, 0, none⟩) 1 1)
    (hlen : n ≤ 1000000000000) (hB : lo ≤ w.heap.size)
    (h : ∀ T' c' w' lo2 hi2, OwnP w' lo2 hi2 T' (n + 1) c' (ts ++ [y]) → Chg lo hi w w' → (lo2 = lo ∧ hi2 = hi) ∨ (w.heap.size ≤ lo2 ∧ hi2 ≤ w'.heap.size) → wpList Tryz.prog ops Q rest (a.put o.dst (.slice T' (n + 1) c')) w') :
    wpList Tryz.prog ops Q (o :: rest) a (w.alloc (.cells #[.string y] 9)) := by
 obtain ⟨rfl, hO, hhi⟩ := hown
 refine app_text_at w y hgd s x ho lo _ ts hs hO hx hlen hB ?_
 intro v' w' hO' hb hk hat hz
 obtain ⟨T', c', rfl, hP⟩ := hO'.p
 have hl : (ts ++ [y]).length = ts.length + 1 := by simp
 have hc : Chg lo hi w w' := ⟨hb.os, hb.tape, hb.output, hb.size, fun k hk1 hk2 => hk k hk1 (fun e => by
  have h1 := hhi k e
  have h2 := (World.ownsRow.lt hO k e).1
  omega)⟩
 rw [hl] at hP hat ⊢
 rcases hat with e | e
 · refine h T' c' w' lo hi ⟨hP.1, hP.2.1, fun k hk => hhi k (by rw [← e]; exact hk)⟩ hc (.inl ⟨rfl, rfl⟩)
 · refine h T' c' w' (w.heap.size + 1) (w.heap.size + 2) ?_ hc (.inr ⟨Nat.le_succ _, ?_⟩)
   · refine ⟨hP.1, ⟨hP.2.1.1, hP.2.1.2.elim .inl fun ⟨g, cap, cur, e', hg, r⟩ => .inr ⟨g, cap, cur, e', ?_, r⟩⟩, fun k hk => ?_⟩
     · rw [e'] at e
       have : g = w.heap.size + 1 := by cases e; rfl
       omega
     · rw [e] at hk
       cases hk
       omega
   · have := (hP.lt _ e).2.2
     omega
end
section
open Go.RowKit
def SaySt (w wr : World) (g k : Nat) (v : Value) (t : Sy) : Prop :=
 ∃ A n c P m d lo hi T C l2 h2, v = .slice T k C ∧ Two wr g (.slice A n c) (.slice P m d) ∧ OwnD wr lo hi A n c t.1 P m d t.2.1 ∧ OwnP wr l2 h2 T k C t.2.2 ∧ (g < lo ∨ hi ≤ g) ∧ (g < l2 ∨ h2 ≤ g) ∧ (hi ≤ l2 ∨ h2 ≤ lo) ∧
  w.heap.size + 2 ≤ lo ∧ hi ≤ wr.heap.size ∧ w.heap.size + 2 ≤ l2 ∧ h2 ≤ wr.heap.size ∧ l2 < h2
set_option maxRecDepth 100000 in
set_option maxHeartbeats 1600000 in
theorem deskSay_no (A P E : Option Addr) (n c m d N C : Nat) (xs : List Int) (yss : List (List Int)) (ts : List ByteArray) (w : World) (h : RdD w w.heap.size A n c xs P m d yss) (hE : RdT w w.heap.size E N C ts) (hno : deskOkB xs yss = false ∨ (deskOkB xs yss = true ∧ 40 < N)) :
    Calls Tryz.prog 17 #[.agg #[.slice A n c, .slice P m d], .slice E N C] w (SayO w [] [] []) := by
 have hm := hE.max
 have hc := hE.cap
 unfold maxLen at hm
 have hW : Below w.heap.size w ((w.alloc (.cells #[.slice A n c, .slice P m d] 26)).alloc (.cells #[.slice none 0 0, .slice none 0 0] 26)) := ((Below.refl _ _).alloc (Nat.le_refl _) _).alloc (by simp) _
 have h1 := h.up hW
 have hr := Two.made (w.alloc (.cells #[.slice A n c, .slice P m d] 26)) 26 (.slice none 0 0) (.slice none 0 0)
 simp only [World.size_alloc] at hr
 have K1 := deskOk_c A P n c m d xs yss _ h1
 rcases hno with h0 | ⟨h0, h2⟩
 all_goals
  rw [h0] at K1
  (try have h2i : (40 : Int) < (N : Int) := by omega)
  go_enter Tryz.func17, Tryz.ntmps17
  go_wp2_with fail
  generalize ((w.alloc (.cells #[.slice A n c, .slice P m d] 26)).alloc (.cells #[.slice none 0 0, .slice none 0 0] 26)) = w1 at *
  refine K1.mono ?_
  rintro e w2 ⟨rfl, hb2⟩
  have hr2 := hr.up hb2
  obtain ⟨_, r0, r1, r2, r3⟩ := id hr2
  have hB := bt hW hb2
  have hz := hb2.size
  have hend : SayO w [] [] [] (.returned (.tuple #[.agg #[.slice none 0 0, .slice none 0 0], .slice none 0 0])) ((w2.setCell ⟨w.heap.size + 1, 0, none⟩ (.slice none 0 0)).setCell ⟨w.heap.size + 1, 1, none⟩ (.slice none 0 0)) :=
   ⟨none, 0, 0, none, 0, 0, none, 0, 0, w.heap.size, w.heap.size, w.heap.size, w.heap.size, rfl, OwnD.zero_ _ _ _ (Nat.le_refl _), OwnP.nil_ _ _ _, Nat.le_refl _, by simp; have := hB.size; omega, Nat.le_refl _, by simp; have := hB.size; omega, .inl (Nat.le_refl _), Nat.le_refl _, (hB.setCell (by simp) _).setCell (by simp) _⟩
  have hT := (hr2.set0 (.slice none 0 0)).set1 (.slice none 0 0)
  have HE := Lib.hid hend
  have HT := Lib.hid hT
  clear hend hT hr2 K1 h1 hr h0
  go_wp2_with fail
  (try simp only [Exit.inBlock, Exit.then])
  refine bodyPost_ret (v := .tuple #[.agg #[.slice none 0 0, .slice none 0 0], .slice none 0 0]) ?_ rfl HE.out
  exact Eq.trans (results_two_tmp (p := 4) (u := 5) rfl _ _ (w.heap.size + 1) _ _ _ rfl HT.out Tryz.underlying26 rfl desk_size) rfl
set_option maxRecDepth 100000 in
set_option maxHeartbeats 3200000 in
theorem deskSay_yes (A P E : Option Addr) (n c m d N C : Nat) (xs : List Int) (yss : List (List Int)) (ts : List ByteArray) (w : World) (hg : Glo w) (h : RdD w w.heap.size A n c xs P m d yss) (hE : RdT w w.heap.size E N C ts) (hok : deskOkB xs yss = true) (hN : N ≤ 40) (hsh : Ln ts) :
    Calls Tryz.prog 17 #[.agg #[.slice A n c, .slice P m d], .slice E N C] w (SayO w (sayL xs yss ts).1 (sayL xs yss ts).2.1 (sayL xs yss ts).2.2) := by
 have HL := Lib.hid hE.len
 have hmE := hE.max
 have hcE := hE.cap
 unfold maxLen at hmE
 have hW : Below w.heap.size w ((w.alloc (.cells #[.slice A n c, .slice P m d] 26)).alloc (.cells #[.slice none 0 0, .slice none 0 0] 26)) := ((Below.refl _ _).alloc (Nat.le_refl _) _).alloc (by simp) _
 have h1 := h.up hW
 have hr := Two.made (w.alloc (.cells #[.slice A n c, .slice P m d] 26)) 26 (.slice none 0 0) (.slice none 0 0)
 have ha := (Two.made w 26 (.slice A n c) (.slice P m d)).alloc (.cells #[.slice none 0 0, .slice none 0 0] 26)
 have hNi : ¬ ((40 : Int) < (N : Int)) := by omega
 simp only [World.size_alloc] at hr
 have K1 := deskOk_c A P n c m d xs yss _ h1
 rw [hok] at K1
 obtain ⟨hx0, hx7, hfit⟩ := desk_fit hok
 have hln := h.1.len
 have HSH := Lib.hid hsh
 have HG := Lib.hid hg
 have HR : Hid (∀ k, k < ts.length → sayL xs yss (ts.take (k + 1)) = stepS (sayL xs yss (ts.take k)) (gT ts k)) := Lib.hid (fun k hk => sayL_succ xs yss ts hk)
 have HMK : ∀ W : World, (Instr.makeSlice 34 (.int .i64 0) (.int .i64 (N : Int))).run Tryz.prog W = .ok (.slice (some ⟨W.heap.size, 0, none⟩) 0 N) (W.alloc (.cells (madeCells #[Value.string ⟨#[]⟩] N) 9)) := fun W => makeTexts N W (by omega)
 clear hok hsh hg
 go_enter Tryz.func17, Tryz.ntmps17
 go_wp2_with fail
 generalize ((w.alloc (.cells #[.slice A n c, .slice P m d] 26)).alloc (.cells #[.slice none 0 0, .slice none 0 0] 26)) = w1 at *
 refine K1.mono ?_
 rintro e w2 ⟨rfl, hb2⟩
 have h2 := h1.up hb2
 have hr2 := hr.up hb2
 have ha2 := ha.up hb2
 have hB2 := bt hW hb2
 obtain ⟨_, a0, a1, _, _⟩ := id ha2
 clear K1 h1 hr ha hW hb2
 go_wp2_with fail
 clear a0 a1
 refine (copied_c A P n c m d xs yss _ h2 (by omega) (by omega) hfit).mono ?_
 rintro e w3 ⟨A3, n3, c3, P3, m3, d3, rfl, hO3, hb3⟩
 have hr3 := hr2.up hb3
 have hB3 := bt hB2 hb3
 have hz2 := hr2.1
 have hz3 := hb3.size
 have hbA := below_new w3 (.cells #[.slice A3 n3 c3, .slice P3 m3 d3] 26)
 have hbM := below_new (w3.alloc (.cells #[.slice A3 n3 c3, .slice P3 m3 d3] 26)) (.cells (madeCells #[Value.string ⟨#[]⟩] N) 9)
 have hT4 := (Two.made w3 26 (.slice A3 n3 c3) (.slice P3 m3 d3)).up hbM
 have hr4 := (hr3.up hbA).up hbM
 have hB4 := bt (bt hB3 hbA) hbM
 have hO4 := (hO3.up hbA).up hbM
 have hP4 := OwnP.madeN (w3.alloc (.cells #[.slice A3 n3 c3, .slice P3 m3 d3] 26)) N (by unfold maxLen; omega)
 have hzA := hbA.size
 have hzM := hbM.size
 have hz1A : (w3.alloc (.cells #[.slice A3 n3 c3, .slice P3 m3 d3] 26)).heap.size = w3.heap.size + 1 := by simp
 have hz1M : ((w3.alloc (.cells #[.slice A3 n3 c3, .slice P3 m3 d3] 26)).alloc (.cells (madeCells #[Value.string ⟨#[]⟩] N) 9)).heap.size = w3.heap.size + 2 := by simp
 rw [hz1A] at hP4
 have hst0 : SaySt w ((w3.alloc (.cells #[.slice A3 n3 c3, .slice P3 m3 d3] 26)).alloc (.cells (madeCells #[Value.string ⟨#[]⟩] N) 9)) w3.heap.size 0 (.slice (some ⟨w3.heap.size + 1, 0, none⟩) 0 N) (sayL xs yss (ts.take 0)) :=
  ⟨A3, n3, c3, P3, m3, d3, w2.heap.size, w3.heap.size, some ⟨w3.heap.size + 1, 0, none⟩, N, w3.heap.size + 1, w3.heap.size + 2, rfl, hT4, hO4, hP4, .inr (Nat.le_refl _), .inl (Nat.lt_succ_self _), .inl (Nat.le_succ _), by omega, by omega, by omega, by omega, Nat.lt_succ_self _⟩
 clear h2 hr2 ha2 hB2 hO3 hb3 hr3 hB3 hT4 hO4 hbA hbM hP4
 go_wp2_with fail
 generalize ((w3.alloc (.cells #[.slice A3 n3 c3, .slice P3 m3 d3] 26)).alloc (.cells (madeCells #[Value.string ⟨#[]⟩] N) 9)) = w4 at *
 have hG2 : w.heap.size + 2 ≤ w3.heap.size := by omega
 clear hz2 hz3 hzA hzM hz1A hz1M HMK
 generalize w3.heap.size = G at *
 go_loopw [7, 28] (fun v i wr => ∃ k : Nat, k ≤ N ∧ i = .int .i64 k ∧ SaySt w wr G k v (sayL xs yss (ts.take k)) ∧ Two wr (w.heap.size + 1) (.slice none 0 0) (.slice none 0 0) ∧ Below w.heap.size w wr) (fun _ i _ => N - (intOf i).toNat)
 case atStart => exact ⟨0, Nat.zero_le _, rfl, hst0, hr4, hB4⟩
 case round =>
  clear hst0 hr4 hB4
  obtain ⟨k, hk, rfl, hst, hrs, hbw⟩ := hrel
  obtain ⟨A5, n5, c5, P5, m5, d5, lo, hi, T5, C5, l2, h2, rfl, hT, hO, hP, hd1, hd2, hd3, hlo, hhi, hl2, hh2, hlh⟩ := hst
  by_cases hlt : k < N
  · have hkl : k < ts.length := by rw [HL.out]; exact hlt
    have HRk := Lib.hid (HR.out k hkl)
    have hsk := HSH.out k hkl
    generalize hrun : sayL xs yss (ts.take k) = T at *
    clear hrun
    obtain ⟨x1, y1, z1⟩ := T
    (try simp only at hO hP)
    obtain ⟨b, off, rfl, hb, e0⟩ := (hE.up hbw).at_ hlt
    have K := line_c A5 P5 n5 c5 m5 d5 x1 y1 (gT ts k) wr hO.rd (HG.out.up hbw) hsk
    obtain ⟨r1, r2, tt, hln⟩ : ∃ r1 r2 tt, lnX x1 y1 (gT ts k).data.toList = (r1, r2, tt) := ⟨_, _, _, rfl⟩
    have HN : Hid (stepS (x1, y1, z1) (gT ts k) = (r1, r2, z1 ++ [tt])) := Lib.hid (by unfold stepS; simp only [hln])
    rw [hln] at K
    clear hln hsk
    generalize gT ts k = S at *
    obtain ⟨hgz, t0, t1, t2, t3⟩ := id hT
    have hk0 : (0 : Int) ≤ (k : Int) := Int.natCast_nonneg _
    have hk1 : (k : Int) < (N : Int) := by omega
    have hzr := hrs.1
    go_wp2_with fail
    clear t0 t1 t2 t3 e0
    refine K.mono ?_
    clear K
    rintro e w5 ⟨A6, n6, c6, P6, m6, d6, rfl, hO6, hb6⟩
    have hT6 := hT.up hb6
    have hr6 := hrs.up hb6
    have hB6 := bt hbw hb6
    have hP6 := hP.up hb6
    have hz6 := hb6.size
    clear hT hrs hbw hO hP hb6
    have hgz5 : G < w5.heap.size := by omega
    have hch : Chg G (G + 1) w5 ((w5.setCell ⟨G, 0, none⟩ (.slice A6 n6 c6)).setCell ⟨G, 1, none⟩ (.slice P6 m6 d6)) :=
     ((Chg.refl _ _ _).setCell (p := ⟨G, 0, none⟩) (Nat.le_refl _) (Nat.lt_succ_self _) _).setCell (p := ⟨G, 1, none⟩) (Nat.le_refl _) (Nat.lt_succ_self _) _
    have hbM := below_new ((w5.setCell ⟨G, 0, none⟩ (.slice A6 n6 c6)).setCell ⟨G, 1, none⟩ (.slice P6 m6 d6)) (.cells #[.slice A6 n6 c6, .slice P6 m6 d6] 26)
    have HT8 := Lib.hid (((hT6.set0 (.slice A6 n6 c6)).set1 (.slice P6 m6 d6)).up hbM)
    have HR8 := Lib.hid ((hr6.chg hch (.inl (by omega))).up hbM)
    have HB8 := Lib.hid (bt (hB6.trans (hch.belowLo (B := w.heap.size) (by omega) (by omega))) hbM)
    have HO8 := Lib.hid ((hO6.chg hch (.inr (by omega))).up hbM)
    have HP8 := Lib.hid ((hP6.chg hch (by omega)).up hbM)
    have hz9 := hbM.size
    have hz8 := hch.size
    have hzW : (((w5.setCell ⟨G, 0, none⟩ (.slice A6 n6 c6)).setCell ⟨G, 1, none⟩ (.slice P6 m6 d6)).alloc (.cells #[.slice A6 n6 c6, .slice P6 m6 d6] 26)).heap.size = w5.heap.size + 1 := by simp
    obtain ⟨_, x60, x61, x62, x63⟩ := id hT6
    clear hbM hch hT6 hr6 hB6 hO6 hP6
    go_wp2_with (at_builtin; refine app_textP (((w5.setCell ⟨G, 0, none⟩ (.slice A6 n6 c6)).setCell ⟨G, 1, none⟩ (.slice P6 m6 d6)).alloc (.cells #[.slice A6 n6 c6, .slice P6 m6 d6] 26)) tt rfl _ _ rfl l2 h2 k C5 T5 z1 rfl HP8.out (by rw [hzW]; rfl) (by omega) (by omega) ?_; intro T9 C9 w9 lo9 hi9 hP9 hc9 hor9)
    have hz10 := hc9.size
    go_roundw
    case rel => exact ⟨k + 1, by omega, by go_num, by rw [HRk.out, HN.out]; exact ⟨A6, n6, c6, P6, m6, d6, _, _, T9, C9, lo9, hi9, rfl, HT8.out.chg hc9 (by omega), HO8.out.chg hc9 (by omega), hP9, by omega, by omega, by omega, by omega, by omega, by omega, by omega, hP9.lohi (Nat.succ_pos _)⟩, HR8.out.chg hc9 (by omega), HB8.out.trans (hc9.belowLo (B := w.heap.size) (by omega) (by omega))⟩
    case measure => simp [intOf]; omega
  · have hkN : k = N := by omega
    have HQ : Hid (sayL xs yss (ts.take k) = sayL xs yss ts) := Lib.hid (by rw [List.take_of_length_le (by rw [HL.out]; omega)])
    rw [HQ.out] at hO hP
    have hzr := hrs.1
    have hch : Chg (w.heap.size + 1) (w.heap.size + 2) wr ((wr.setCell ⟨w.heap.size + 1, 0, none⟩ (.slice A5 n5 c5)).setCell ⟨w.heap.size + 1, 1, none⟩ (.slice P5 m5 d5)) :=
     ((Chg.refl _ _ wr).setCell (p := ⟨w.heap.size + 1, 0, none⟩) (by simp) (by simp) _).setCell (p := ⟨w.heap.size + 1, 1, none⟩) (by simp) (by simp) _
    have hzc := hch.size
    have hend : SayO w (sayL xs yss ts).1 (sayL xs yss ts).2.1 (sayL xs yss ts).2.2 (.returned (.tuple #[.agg #[.slice A5 n5 c5, .slice P5 m5 d5], .slice T5 k C5])) ((wr.setCell ⟨w.heap.size + 1, 0, none⟩ (.slice A5 n5 c5)).setCell ⟨w.heap.size + 1, 1, none⟩ (.slice P5 m5 d5)) :=
     ⟨A5, n5, c5, P5, m5, d5, T5, k, C5, lo, hi, l2, h2, rfl, hO.chg hch (.inr (by omega)), hP.chg hch (by omega), by omega, by omega, by omega, by omega, hd3, Nat.le_of_lt hlh, hbw.trans (hch.belowLo (B := w.heap.size) (by omega) (by omega))⟩
    have hTe := (hrs.set0 (.slice A5 n5 c5)).set1 (.slice P5 m5 d5)
    obtain ⟨_, t0, t1, _, _⟩ := id hT
    obtain ⟨_, s0, s1, s2, s3⟩ := id hrs
    have HE := Lib.hid hend
    have HT := Lib.hid hTe
    clear hend hTe hch hO hP
    go_wp2_with fail
    (try simp only [Exit.inBlock, Exit.then])
    refine bodyPost_ret (v := .tuple #[.agg #[.slice A5 n5 c5, .slice P5 m5 d5], .slice T5 k C5]) ?_ rfl HE.out
    exact Eq.trans (results_two_tmp (p := 4) (u := 5) rfl _ _ (w.heap.size + 1) _ _ _ rfl HT.out Tryz.underlying26 rfl desk_size) rfl
end
section
open Go.RowKit
def CutL (wj wx : World) (s6 s7 : Value) (r1 : List Int) (r2 : List (List Int)) (t : ByteArray) : Prop :=
 ∃ g A n c P m d, s6 = .pointer (some ⟨g, 0, none⟩) ∧ s7 = .string t ∧ Two wx g (.slice A n c) (.slice P m d) ∧ Below wj.heap.size wj wx ∧ RdD wx wx.heap.size A n c r1 P m d r2 ∧ FreshD wx wj.heap.size A n c P m d
section
variable {wj wx : World} {A P : Option Addr} {n c m d L : Nat} {r1 : List Int} {r2 : List (List Int)} {t : ByteArray}
theorem cutL_last (hb : Below wj.heap.size wj wx) (h : RdD wx wx.heap.size A n c r1 P m d r2) (hF : FreshD wx L A n c P m d) (hL : wj.heap.size ≤ L) : CutL wj (wx.alloc (.cells #[.slice A n c, .slice P m d] 26)) (.pointer (some ⟨wx.heap.size, 0, none⟩)) (.string t) r1 r2 t :=
 ⟨_, _, _, _, _, _, _, rfl, rfl, Two.made wx _ _ _, bt hb (below_new _ _), ⟨h.1.up (below_new _ _), h.2.up (below_new _ _)⟩, (hF.upF h (below_new _ _)).more hL⟩
theorem cutL_early (hb : Below wj.heap.size wj wx) (h : RdD wx wx.heap.size A n c r1 P m d r2) (hF : FreshD wx L A n c P m d) (hL : wj.heap.size + 1 ≤ L) (hg : Two wx wj.heap.size (.slice none 0 0) (.slice none 0 0)) :
    CutL wj ((wx.setCell ⟨wj.heap.size, 0, none⟩ (.slice A n c)).setCell ⟨wj.heap.size, 1, none⟩ (.slice P m d)) (.pointer (some ⟨wj.heap.size, 0, none⟩)) (.string t) r1 r2 t := by
 have hg1 := hg.set0 (.slice A n c)
 have hch : Chg wj.heap.size (wj.heap.size + 1) wx ((wx.setCell ⟨wj.heap.size, 0, none⟩ (.slice A n c)).setCell ⟨wj.heap.size, 1, none⟩ (.slice P m d)) :=
  ((Chg.refl _ _ wx).setCell (p := ⟨wj.heap.size, 0, none⟩) (Nat.le_refl _) (Nat.lt_succ_self _) _).setCell (p := ⟨wj.heap.size, 1, none⟩) (Nat.le_refl _) (Nat.lt_succ_self _) _
 exact ⟨wj.heap.size, A, n, c, P, m, d, rfl, rfl, hg1.set1 _, (hb.setCell (Nat.le_refl _) _).setCell (Nat.le_refl _) _, h.chgF hF hch hL, (hF.chgF h hch hL).more (by omega)⟩
end
def SaySr (w wr : World) (g k : Nat) (v : Value) (t : Sy) : Prop :=
 ∃ A n c P m d T C l2 h2, v = .slice T k C ∧ Two wr g (.slice A n c) (.slice P m d) ∧ RdD wr wr.heap.size A n c t.1 P m d t.2.1 ∧ (∀ q, (Value.slice P m d).ownBlock = some q → q ≠ g) ∧ OwnP wr l2 h2 T k C t.2.2 ∧ (g < l2 ∨ h2 ≤ g) ∧
  w.heap.size + 2 ≤ l2 ∧ h2 ≤ wr.heap.size ∧ l2 < h2
set_option maxRecDepth 100000 in
set_option maxHeartbeats 1600000 in
theorem sDeskSay_no (A P E : Option Addr) (n c m d N C : Nat) (xs : List Int) (yss : List (List Int)) (ts : List ByteArray) (w : World) (h : RdD w w.heap.size A n c xs P m d yss) (hE : RdT w w.heap.size E N C ts) (hno : deskOkB xs yss = false ∨ (deskOkB xs yss = true ∧ 40 < N)) :
    Calls Tryz.prog 18 #[.agg #[.slice A n c, .slice P m d], .slice E N C] w (SayR w [] [] []) := by
 have hm := hE.max
 have hc := hE.cap
 unfold maxLen at hm
 have hW : Below w.heap.size w (((w.alloc (.cells #[.slice A n c, .slice P m d] 26)).alloc (.cells #[.slice none 0 0, .slice none 0 0] 26)).alloc (.cells #[] 9)) := (((Below.refl _ _).alloc (Nat.le_refl _) _).alloc (by simp) _).alloc (by simp; omega) _
 have h1 : RdD (((w.alloc (.cells #[.slice A n c, .slice P m d] 26)).alloc (.cells #[.slice none 0 0, .slice none 0 0] 26)).alloc (.cells #[] 9)) (((w.alloc (.cells #[.slice A n c, .slice P m d] 26)).alloc (.cells #[.slice none 0 0, .slice none 0 0] 26)).alloc (.cells #[] 9)).heap.size A n c xs P m d yss := ⟨h.1.up hW, h.2.up hW⟩
 have hr := (Two.made (w.alloc (.cells #[.slice A n c, .slice P m d] 26)) 26 (.slice none 0 0) (.slice none 0 0)).alloc (.cells #[] 9)
 simp only [World.size_alloc] at hr
 have K1 := sDeskOk_c A P n c m d xs yss _ h1
 rcases hno with h0 | ⟨h0, h2⟩
 all_goals
  rw [h0] at K1
  (try have h2i : (40 : Int) < (N : Int) := by omega)
  go_enter Tryz.func18, Tryz.ntmps18
  go_wp2_with fail
  generalize (((w.alloc (.cells #[.slice A n c, .slice P m d] 26)).alloc (.cells #[.slice none 0 0, .slice none 0 0] 26)).alloc (.cells #[] 9)) = w1 at *
  refine K1.mono ?_
  rintro e w2 ⟨rfl, hb2⟩
  have hr2 := hr.up hb2
  obtain ⟨_, r0, r1, r2, r3⟩ := id hr2
  have hB := bt hW hb2
  have hz := hb2.size
  have hend : SayR w [] [] [] (.returned (.tuple #[.agg #[.slice none 0 0, .slice none 0 0], .slice (some ⟨w.heap.size + 2, 0, none⟩) 0 0])) ((w2.setCell ⟨w.heap.size + 1, 0, none⟩ (.slice none 0 0)).setCell ⟨w.heap.size + 1, 1, none⟩ (.slice none 0 0)) :=
   ⟨none, 0, 0, none, 0, 0, some ⟨w.heap.size + 2, 0, none⟩, 0, 0, rfl, ⟨Rd.nil_ _ _, RdR.nil_ _ _⟩, ⟨rfl, Nat.le_refl _, Nat.zero_le _, fun h => absurd h (Nat.lt_irrefl _)⟩, (hB.setCell (by simp) _).setCell (by simp) _⟩
  have hT := (hr2.set0 (.slice none 0 0)).set1 (.slice none 0 0)
  have HE := Lib.hid hend
  have HT := Lib.hid hT
  clear hend hT hr2 K1 h1 hr h0
  go_wp2_with fail
  (try simp only [Exit.inBlock, Exit.then])
  refine bodyPost_ret (v := .tuple #[.agg #[.slice none 0 0, .slice none 0 0], .slice (some ⟨w.heap.size + 2, 0, none⟩) 0 0]) ?_ rfl HE.out
  exact Eq.trans (results_two_tmp (p := 4) (u := 5) rfl _ _ (w.heap.size + 1) _ _ _ rfl HT.out Tryz.underlying26 rfl desk_size) rfl
set_option maxRecDepth 100000 in
set_option maxHeartbeats 3200000 in
theorem sDeskSay_yes (A P E : Option Addr) (n c m d N C : Nat) (xs : List Int) (yss : List (List Int)) (ts : List ByteArray) (w : World) (h : RdD w w.heap.size A n c xs P m d yss) (hE : RdT w w.heap.size E N C ts) (hok : deskOkB xs yss = true) (hN : N ≤ 40) (hsh : Ln ts) :
    Calls Tryz.prog 18 #[.agg #[.slice A n c, .slice P m d], .slice E N C] w (SayR w (sayL xs yss ts).1 (sayL xs yss ts).2.1 (sayL xs yss ts).2.2) := by
 have HL := Lib.hid hE.len
 have hm := hE.max
 have hc := hE.cap
 unfold maxLen at hm
 have hW : Below w.heap.size w (((w.alloc (.cells #[.slice A n c, .slice P m d] 26)).alloc (.cells #[.slice none 0 0, .slice none 0 0] 26)).alloc (.cells #[] 9)) := (((Below.refl _ _).alloc (Nat.le_refl _) _).alloc (by simp) _).alloc (by simp; omega) _
 have h1 : RdD (((w.alloc (.cells #[.slice A n c, .slice P m d] 26)).alloc (.cells #[.slice none 0 0, .slice none 0 0] 26)).alloc (.cells #[] 9)) (((w.alloc (.cells #[.slice A n c, .slice P m d] 26)).alloc (.cells #[.slice none 0 0, .slice none 0 0] 26)).alloc (.cells #[] 9)).heap.size A n c xs P m d yss := ⟨h.1.up hW, h.2.up hW⟩
 have hr := (Two.made (w.alloc (.cells #[.slice A n c, .slice P m d] 26)) 26 (.slice none 0 0) (.slice none 0 0)).alloc (.cells #[] 9)
 simp only [World.size_alloc] at hr
 have K1 := sDeskOk_c A P n c m d xs yss _ h1
 have ha := ((Two.made w 26 (.slice A n c) (.slice P m d)).alloc (.cells #[.slice none 0 0, .slice none 0 0] 26)).alloc (.cells #[] 9)
 have hp1 : OwnP (((w.alloc (.cells #[.slice A n c, .slice P m d] 26)).alloc (.cells #[.slice none 0 0, .slice none 0 0] 26)).alloc (.cells #[] 9)) (w.heap.size + 2) (w.heap.size + 3) (some ⟨w.heap.size + 2, 0, none⟩) 0 0 [] := by
  have h9 : World.ownsRow (((w.alloc (.cells #[.slice A n c, .slice P m d] 26)).alloc (.cells #[.slice none 0 0, .slice none 0 0] 26)).alloc (.cells #[] 9)) ((w.alloc (.cells #[.slice A n c, .slice P m d] 26)).alloc (.cells #[.slice none 0 0, .slice none 0 0] 26)).heap.size 9 1 (.slice (some ⟨((w.alloc (.cells #[.slice A n c, .slice P m d] 26)).alloc (.cells #[.slice none 0 0, .slice none 0 0] 26)).heap.size, 0, none⟩) 0 0) 0 [] := World.ownsRow_made ((w.alloc (.cells #[.slice A n c, .slice P m d] 26)).alloc (.cells #[.slice none 0 0, .slice none 0 0] 26)) #[] 0 (Nat.le_refl _) (Nat.zero_le _) (by simp)
  have e9 : ((w.alloc (.cells #[.slice A n c, .slice P m d] 26)).alloc (.cells #[.slice none 0 0, .slice none 0 0] 26)).heap.size = w.heap.size + 2 := by simp
  rw [e9] at h9
  exact ⟨rfl, h9, fun k hk => by cases hk; exact Nat.lt_succ_self _⟩
 have hz1 : (((w.alloc (.cells #[.slice A n c, .slice P m d] 26)).alloc (.cells #[.slice none 0 0, .slice none 0 0] 26)).alloc (.cells #[] 9)).heap.size = w.heap.size + 3 := by simp
 have hNi : ¬ ((40 : Int) < (N : Int)) := by omega
 rw [hok] at K1
 obtain ⟨hx0, hx7, hfit⟩ := desk_fit hok
 have hln := h.1.len
 have HSH := Lib.hid hsh
 have HR : Hid (∀ k, k < ts.length → sayL xs yss (ts.take (k + 1)) = stepS (sayL xs yss (ts.take k)) (gT ts k)) := Lib.hid (fun k hk => sayL_succ xs yss ts hk)
 have HST : Hid (∀ k, deskOkB (sayL xs yss (ts.take k)).1 (sayL xs yss (ts.take k)).2.1 = true) := Lib.hid (fun k => sayL_ok _ hok)
 clear hok hsh
 go_enter Tryz.func18, Tryz.ntmps18
 go_wp2_with fail
 generalize (((w.alloc (.cells #[.slice A n c, .slice P m d] 26)).alloc (.cells #[.slice none 0 0, .slice none 0 0] 26)).alloc (.cells #[] 9)) = w1 at *
 refine K1.mono ?_
 rintro e w2 ⟨rfl, hb2⟩
 have h2 : RdD w2 w2.heap.size A n c xs P m d yss := ⟨h1.1.up hb2, h1.2.up hb2⟩
 have hr2 := hr.up hb2
 have ha2 := ha.up hb2
 have hp2 := hp1.up hb2
 have hB2 := bt hW hb2
 have hz2' := hb2.size
 obtain ⟨_, a0, a1, _, _⟩ := id ha2
 clear K1 h1 hr ha hW hb2 hp1
 go_wp2_with fail
 clear a0 a1
 refine (sCopy_c A P n c m d xs yss _ h2 (by omega) (by omega) hfit).mono ?_
 rintro e w3 ⟨A3, n3, c3, P3, m3, d3, rfl, hO3, hb3⟩
 have hr3 := hr2.up hb3
 have hB3 := bt hB2 hb3
 have hz2 := hr2.1
 have hz3 := hb3.size
 have hbA := below_new w3 (.cells #[.slice A3 n3 c3, .slice P3 m3 d3] 26)
 have hT4 := Two.made w3 26 (.slice A3 n3 c3) (.slice P3 m3 d3)
 have hr4 := hr3.up hbA
 have hB4 := bt hB3 hbA
 have hO4 := hO3.up hbA
 have hp4 := (hp2.up hb3).up hbA
 have hzA := hbA.size
 have hst0 : SaySr w (w3.alloc (.cells #[.slice A3 n3 c3, .slice P3 m3 d3] 26)) w3.heap.size 0 (.slice (some ⟨w.heap.size + 2, 0, none⟩) 0 0) (sayL xs yss (ts.take 0)) :=
  ⟨A3, n3, c3, P3, m3, d3, _, 0, w.heap.size + 2, w.heap.size + 3, rfl, hT4, hO4.rd, fun q hq => by
   obtain ⟨mid, h5, h6, _, vs, gs, hv, hb, _⟩ := hO3
   have := hb q hq
   omega, hp4, by omega, Nat.le_refl _, by omega, Nat.lt_succ_self _⟩
 clear h2 hr2 ha2 hB2 hO3 hb3 hr3 hB3 hT4 hO4 hbA hp2 hp4
 go_wp2_with fail
 generalize w3.alloc (.cells #[.slice A3 n3 c3, .slice P3 m3 d3] 26) = w4 at *
 have hG2 : w.heap.size + 3 ≤ w3.heap.size := by omega
 clear hz2 hz3 hzA hz2' hz1
 generalize w3.heap.size = G at *
 go_loopw [6, 8] (fun v i wr => ∃ k : Nat, k ≤ N ∧ i = .int .i64 k ∧ SaySr w wr G k v (sayL xs yss (ts.take k)) ∧ Two wr (w.heap.size + 1) (.slice none 0 0) (.slice none 0 0) ∧ Below w.heap.size w wr) (fun _ i _ => N - (intOf i).toNat)
 case atStart => exact ⟨0, Nat.zero_le _, rfl, hst0, hr4, hB4⟩
 case round =>
  clear hst0 hr4 hB4
  obtain ⟨k, hk, rfl, hst, hrs, hbw⟩ := hrel
  obtain ⟨A5, n5, c5, P5, m5, d5, T5, C5, l2, h2, rfl, hT, hO, hne, hP, hd2, hl2, hh2, hlh⟩ := hst
  by_cases hlt : k < N
  · have hkl : k < ts.length := by rw [HL.out]; exact hlt
    have HRk := Lib.hid (HR.out k hkl)
    have hsk := HSH.out k hkl
    generalize hrun : sayL xs yss (ts.take k) = T at *
    clear hrun
    obtain ⟨x1, y1, z1⟩ := T
    (try simp only at hO hP)
    obtain ⟨b, off, rfl, hb, e0⟩ := (hE.up hbw).at_ hlt
    have hbE : b < wr.heap.size := hb
    have K := fun W hW => sLine_c A5 P5 n5 c5 m5 d5 x1 y1 (gT ts k) W hW hsk
    obtain ⟨r1, r2, tt, hln⟩ : ∃ r1 r2 tt, lnX x1 y1 (gT ts k).data.toList = (r1, r2, tt) := ⟨_, _, _, rfl⟩
    have HN : Hid (stepS (x1, y1, z1) (gT ts k) = (r1, r2, z1 ++ [tt])) := Lib.hid (by unfold stepS; simp only [hln])
    rw [hln] at K
    clear hln hsk
    generalize gT ts k = S at *
    have hgz := hT.1
    have hk0 : (0 : Int) ≤ (k : Int) := Int.natCast_nonneg _
    have hk1 : (k : Int) < (N : Int) := by omega
    have hzr := hrs.1
    go_upto_region 8 with fail
    go_cut [9, 10] from 24 to 43 (fun s9 s10 wx => CutL wr wx s9 s10 r1 r2 tt)
    case first =>
     have y0 : World.cell? wr.drew ⟨G, 0, none⟩ = some (.slice A5 n5 c5) ∧ World.cell? wr.drew ⟨G, 1, none⟩ = some (.slice P5 m5 d5) ∧ World.cell? wr.drew ⟨b, off + k, none⟩ = some (.string S) := ⟨hT.2.1, hT.2.2.1, e0⟩
     obtain ⟨p0, p1, p2⟩ := id y0
     have hOd : RdD wr.drew wr.drew.heap.size A5 n5 c5 x1 P5 m5 d5 y1 := ⟨hO.1.dn 1, hO.2.dn 1⟩
     have hzd : wr.heap.size ≤ wr.drew.heap.size := Nat.le_refl _
     have hGd : G < wr.drew.heap.size := hgz
     have hbd : b < wr.drew.heap.size := hbE
     have KA0 : Hid (∀ o, World.cell? (wr.drew.alloc o) ⟨G, 0, none⟩ = some (.slice A5 n5 c5) ∧ World.cell? (wr.drew.alloc o) ⟨G, 1, none⟩ = some (.slice P5 m5 d5) ∧ World.cell? (wr.drew.alloc o) ⟨b, off + k, none⟩ = some (.string S)) := Lib.hid (fun o => ⟨((below_new wr.drew o).cell (p := ⟨G, 0, none⟩) hGd).trans p0, ((below_new wr.drew o).cell (p := ⟨G, 1, none⟩) hGd).trans p1, ((below_new wr.drew o).cell (p := ⟨b, off + k, none⟩) hbd).trans p2⟩)
     have YS := Lib.hid y0
     clear y0 hT hrs hO e0 hP
     go_region_held3 (fun w' => World.cell? w' ⟨G, 0, none⟩ = some (.slice A5 n5 c5) ∧ World.cell? w' ⟨G, 1, none⟩ = some (.slice P5 m5 d5) ∧ World.cell? w' ⟨b, off + k, none⟩ = some (.string S))
      (first
       | exact YS.out
       | exact KA0.out _
       | exact Y5.out
       | exact KA5.out _
       | exact KF.out _ _)
      (first
       | (go_at_call 10; refine (K _ (by first | exact hOd | exact ⟨hOd.1.up (below_new _ _), hOd.2.up (below_new _ _)⟩)).mono ?_; rintro e w5 ⟨A6, n6, c6, P6, m6, d6, rfl, h5, hfr5, hx5⟩; have hb5 : Below wr.drew.heap.size wr.drew w5 := (by first | exact hx5 | exact below_of_alloc hx5); (try have tz5 : Two w5 wr.heap.size (.slice none 0 0) (.slice none 0 0) := (Two.made wr.drew _ _ _).up hx5); have hz5 := hb5.size; have Y5 := Lib.hid (show World.cell? w5 ⟨G, 0, none⟩ = some (.slice A5 n5 c5) ∧ World.cell? w5 ⟨G, 1, none⟩ = some (.slice P5 m5 d5) ∧ World.cell? w5 ⟨b, off + k, none⟩ = some (.string S) from ⟨(hb5.cell (p := ⟨G, 0, none⟩) hGd).trans p0, (hb5.cell (p := ⟨G, 1, none⟩) hGd).trans p1, (hb5.cell (p := ⟨b, off + k, none⟩) hbd).trans p2⟩); have hG5 : G < w5.heap.size := (by omega); have hb59 : b < w5.heap.size := (by omega); obtain ⟨i0, i1, i2⟩ := Y5.out; have KA5 : Hid (∀ o, World.cell? (w5.alloc o) ⟨G, 0, none⟩ = some (.slice A5 n5 c5) ∧ World.cell? (w5.alloc o) ⟨G, 1, none⟩ = some (.slice P5 m5 d5) ∧ World.cell? (w5.alloc o) ⟨b, off + k, none⟩ = some (.string S)) := Lib.hid (fun o => ⟨((below_new w5 o).cell (p := ⟨G, 0, none⟩) hG5).trans i0, ((below_new w5 o).cell (p := ⟨G, 1, none⟩) hG5).trans i1, ((below_new w5 o).cell (p := ⟨b, off + k, none⟩) hb59).trans i2⟩); have KF : Hid (∀ u v, World.cell? ((w5.setCell ⟨wr.heap.size, 0, none⟩ u).setCell ⟨wr.heap.size, 1, none⟩ v) ⟨G, 0, none⟩ = some (.slice A5 n5 c5) ∧ World.cell? ((w5.setCell ⟨wr.heap.size, 0, none⟩ u).setCell ⟨wr.heap.size, 1, none⟩ v) ⟨G, 1, none⟩ = some (.slice P5 m5 d5) ∧ World.cell? ((w5.setCell ⟨wr.heap.size, 0, none⟩ u).setCell ⟨wr.heap.size, 1, none⟩ v) ⟨b, off + k, none⟩ = some (.string S)) := Lib.hid (fun u v => ⟨farc (by omega) i0, farc (by omega) i1, farc (by omega) i2⟩); clear i0 i1 i2 hx5; (try obtain ⟨_, z0, z1q, z2, z3⟩ := id tz5)))
     all_goals
      go_wp2_with fail
      go_meet
      first
       | exact cutL_last (show Below wr.heap.size wr w5 from bt (bd (Below.refl wr.heap.size wr) 1) hb5) h5 hfr5 (by first | exact Nat.le_refl _ | (rw [World.size_alloc]; exact Nat.le_succ _))
       | exact cutL_early (show Below wr.heap.size wr w5 from bt (bd (Below.refl wr.heap.size wr) 1) hb5) h5 hfr5 (Nat.le_of_eq (World.size_alloc wr (.cells #[.slice none 0 0, .slice none 0 0] 26)).symm) tz5
    case rest =>
     obtain ⟨g8, A6, n6, c6, P6, m6, d6, rfl, rfl, hT8, hb8, hD8, hF8⟩ := hcut
     have hT6 := hT.up hb8
     have hr6 := hrs.up hb8
     have hB6 := bt hbw hb8
     have hP6 := hP.up hb8
     have hz8 := hb8.size
     obtain ⟨_, v0, v1, v2, v3⟩ := id hT6
     obtain ⟨_, u0, u1, _, _⟩ := id hT8
     clear e0 K hb8 hT hrs hO hP
     have hch : Chg G (G + 1) wc ((wc.setCell ⟨G, 0, none⟩ (.slice A6 n6 c6)).setCell ⟨G, 1, none⟩ (.slice P6 m6 d6)) :=
      ((Chg.refl _ _ _).setCell (p := ⟨G, 0, none⟩) (Nat.le_refl _) (Nat.lt_succ_self _) _).setCell (p := ⟨G, 1, none⟩) (Nat.le_refl _) (Nat.lt_succ_self _) _
     have hPG : ∀ q, (Value.slice P6 m6 d6).ownBlock = some q → q ≠ G := fun q hq => by have := hF8.2.1 q hq; omega
     have HT9 := Lib.hid ((hT6.set0 (.slice A6 n6 c6)).set1 (.slice P6 m6 d6))
     have HR9 := Lib.hid (hr6.chg hch (.inl (by omega)))
     have HB9 := Lib.hid (hB6.trans (hch.belowLo (B := w.heap.size) (by omega) (by omega)))
     have HO9 := Lib.hid (hD8.chgF hF8 hch (by omega))
     have HF9 := Lib.hid (hF8.chgF hD8 hch (by omega))
     have HP9 := Lib.hid (hP6.chg hch (by omega))
     have HPG := Lib.hid hPG
     have hz9 := hch.size
     have hzW : ((wc.setCell ⟨G, 0, none⟩ (.slice A6 n6 c6)).setCell ⟨G, 1, none⟩ (.slice P6 m6 d6)).heap.size = wc.heap.size := by simp
     clear hch hT6 hr6 hB6 hP6 hPG hD8 hF8 hT8
     go_wp2_with (at_builtin; refine app_textP ((wc.setCell ⟨G, 0, none⟩ (.slice A6 n6 c6)).setCell ⟨G, 1, none⟩ (.slice P6 m6 d6)) tt rfl _ _ rfl l2 h2 k C5 T5 z1 rfl HP9.out (by rw [hzW]; rfl) (by omega) (by omega) ?_; intro T9 C9 w9 lo9 hi9 hP9 hc9 hor9)
     have hz10 := hc9.size
     go_roundw
     case rel => exact ⟨k + 1, by omega, by go_num, by rw [HRk.out, HN.out]; exact ⟨A6, n6, c6, P6, m6, d6, T9, C9, lo9, hi9, rfl, HT9.out.chg hc9 (by omega), HO9.out.chgF HF9.out hc9 (by omega), HPG.out, hP9, by omega, by omega, by omega, hP9.lohi (Nat.succ_pos _)⟩, HR9.out.chg hc9 (by omega), HB9.out.trans (hc9.belowLo (B := w.heap.size) (by omega) (by omega))⟩
     case measure => simp [intOf]; omega
  · have hkN : k = N := by omega
    have HQ : Hid (sayL xs yss (ts.take k) = sayL xs yss ts) := Lib.hid (by rw [List.take_of_length_le (by rw [HL.out]; omega)])
    have hokE := HST.out k
    rw [HQ.out] at hO hP hokE
    have hzr := hrs.1
    have hgs := hrs.set0 (.slice A5 n5 c5)
    have hf0 := fun k hk => ((desk_fit hokE).2.2.2 k hk).1
    have hch : Chg (w.heap.size + 1) (w.heap.size + 2) wr ((wr.setCell ⟨w.heap.size + 1, 0, none⟩ (.slice A5 n5 c5)).setCell ⟨w.heap.size + 1, 1, none⟩ (.slice P5 m5 d5)) :=
     ((Chg.refl _ _ wr).setCell (p := ⟨w.heap.size + 1, 0, none⟩) (by simp) (by simp) _).setCell (p := ⟨w.heap.size + 1, 1, none⟩) (by simp) (by simp) _
    have hend : SayR w (sayL xs yss ts).1 (sayL xs yss ts).2.1 (sayL xs yss ts).2.2 (.returned (.tuple #[.agg #[.slice A5 n5 c5, .slice P5 m5 d5], .slice T5 k C5])) ((wr.setCell ⟨w.heap.size + 1, 0, none⟩ (.slice A5 n5 c5)).setCell ⟨w.heap.size + 1, 1, none⟩ (.slice P5 m5 d5)) := by
     refine ⟨A5, n5, c5, P5, m5, d5, T5, k, C5, rfl, ?_, (hP.chg hch (by omega)).rd, hbw.trans (hch.belowLo (B := w.heap.size) (by omega) (by omega))⟩
     rw [show ((wr.setCell ⟨w.heap.size + 1, 0, none⟩ (.slice A5 n5 c5)).setCell ⟨w.heap.size + 1, 1, none⟩ (.slice P5 m5 d5)).heap.size = wr.heap.size by simp]
     exact ⟨(hO.1.set_ hrs.2.1 _).set_ hgs.2.2.1 _, (hO.2.set_ hf0 hrs.2.1 _).set_ hf0 hgs.2.2.1 _⟩
    have hTe := hgs.set1 (.slice P5 m5 d5)
    obtain ⟨_, t0, t1, _, _⟩ := id hT
    obtain ⟨_, s0, s1, s2, s3⟩ := id hrs
    have HE := Lib.hid hend
    have HT := Lib.hid hTe
    clear hend hTe hch hO hP hkN hgs hokE hf0
    go_wp2_with fail
    (try simp only [Exit.inBlock, Exit.then])
    refine bodyPost_ret (v := .tuple #[.agg #[.slice A5 n5 c5, .slice P5 m5 d5], .slice T5 k C5]) ?_ rfl HE.out
    exact Eq.trans (results_two_tmp (p := 4) (u := 5) rfl _ _ (w.heap.size + 1) _ _ _ rfl HT.out Tryz.underlying26 rfl desk_size) rfl
theorem deskSay_any (xs : List Int) (yss : List (List Int)) (ts : List ByteArray) (hsh : Ln ts) :
    ∃ (r1 : List Int) (r2 : List (List Int)) (zs : List ByteArray), (r1.length ≤ 7 ∧ r2.length ≤ 8 ∧ tot r2 ≤ 56 ∧ Rows0 r2 ∧ zs.length ≤ 40) ∧ (r1, r2, zs) = sayX xs yss ts ∧
     (∀ A n c P k d E N C w, RdD w w.heap.size A n c xs P k d yss → RdT w w.heap.size E N C ts → Calls Tryz.prog 18 #[.agg #[.slice A n c, .slice P k d], .slice E N C] w (SayR w r1 r2 zs)) ∧
     (∀ A n c P k d E N C w, RdD w w.heap.size A n c xs P k d yss → RdT w w.heap.size E N C ts → Glo w → Calls Tryz.prog 17 #[.agg #[.slice A n c, .slice P k d], .slice E N C] w (SayO w r1 r2 zs)) := by
 refine ⟨(sayX xs yss ts).1, (sayX xs yss ts).2.1, (sayX xs yss ts).2.2, sayX_sizes xs yss ts, rfl, ?_⟩
 rcases hok : deskOkB xs yss with _ | _
 · have e : sayX xs yss ts = ([], [], []) := by unfold sayX sayB; rw [hok]; rfl
   rw [e]
   exact ⟨fun A n c P k d E N C w h hE => sDeskSay_no A P E n c k d N C xs yss ts w h hE (.inl hok), fun A n c P k d E N C w h hE hg => deskSay_no A P E n c k d N C xs yss ts w h hE (.inl hok)⟩
 · by_cases h40 : ts.length ≤ 40
   · have e : sayX xs yss ts = sayL xs yss ts := by unfold sayX sayB; rw [hok, decide_eq_true h40]; rfl
     rw [e]
     exact ⟨fun A n c P k d E N C w h hE => sDeskSay_yes A P E n c k d N C xs yss ts w h hE hok (by rw [← hE.len]; exact h40) hsh, fun A n c P k d E N C w h hE hg => deskSay_yes A P E n c k d N C xs yss ts w hg h hE hok (by rw [← hE.len]; exact h40) hsh⟩
   · have e : sayX xs yss ts = ([], [], []) := by unfold sayX sayB; rw [hok, decide_eq_false h40]; rfl
     rw [e]
     exact ⟨fun A n c P k d E N C w h hE => sDeskSay_no A P E n c k d N C xs yss ts w h hE (.inr ⟨hok, by have := hE.len; omega⟩), fun A n c P k d E N C w h hE hg => deskSay_no A P E n c k d N C xs yss ts w h hE (.inr ⟨hok, by have := hE.len; omega⟩)⟩
end
end Go.Proofs.YtoinlkdmfclnbaaGreatDoor
