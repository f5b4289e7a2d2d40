/- Bundle V9. -/
import Derived.Lib.SlBytesRow
import Derived.Lib.MinMax
import Derived.Test.YtoinlkdmfclnbaaGreatDoorYP
import Derived.Test.YtoinlkdmfclnbaaGreatDoorYQ
import Derived.Test.YtoinlkdmfclnbaaGreatDoorYV3
import Derived.Test.YtoinlkdmfclnbaaGreatDoorYV4
import Derived.Test.YtoinlkdmfclnbaaGreatDoorYV5
import Derived.Test.YtoinlkdmfclnbaaGreatDoorYV8
namespace Go.Proofs.YtoinlkdmfclnbaaGreatDoor
set_option linter.unusedVariables false
section
theorem fromX_count (f : List Nat) (t : Nat) : ∀ k, k ≤ f.length → (fromX (ints f) (t : Int) k).length = (f.take k).count t
 | 0, _ => by simp [fromX]
 | k + 1, hk => by
  have ih := fromX_count f t k (by omega)
  rw [List.take_succ_eq_append_getElem (by omega), List.count_append, ← ih, List.count_singleton]
  have e : gI (ints f) k = ((f[k]'(by omega) : Nat) : Int) := by rw [gI_ints, nx_get (by omega)]
  by_cases h : f[k]'(by omega) = t
  · rw [fromX_t (by rw [e, h]), List.length_append]; simp [h]
  · rw [fromX_f (by rw [e]; omega)]; simp [h]
theorem fromI_count {f : List Nat} (hf : MapN f) (t : Nat) : (fromI (ints f) (t : Int)).length = f.count t := by
 rw [fromI_ok _ (mapOk_ints hf), fromX_count _ _ _ (by rw [ints_len]; exact Nat.le_refl _), ints_len, List.take_length]
end
section
def tab (g : Nat → Nat) (n k : Nat) : List Nat := (List.range n).map (fun j => if j < k then g j else 0)
theorem tab_len (g : Nat → Nat) (n k : Nat) : (tab g n k).length = n := by simp [tab]
theorem tab_zero (g : Nat → Nat) (n : Nat) : tab g n 0 = List.replicate n 0 := by
 apply List.ext_getElem (by simp [tab_len])
 intro k h1 h2
 simp [tab]
theorem tab_succ (g : Nat → Nat) {n k : Nat} (hk : k < n) : (tab g n k).set k (g k) = tab g n (k + 1) := by
 apply List.ext_getElem (by simp [tab_len])
 intro j h1 h2
 rw [List.getElem_set]
 simp only [tab, List.getElem_map, List.getElem_range]
 split
 · rename_i e; subst e; rw [if_pos (by omega)]
 · rename_i e
   by_cases h : j < k
   · rw [if_pos h, if_pos (by omega)]
   · rw [if_neg h, if_neg (by omega)]
theorem tab_all (g : Nat → Nat) (n : Nat) : tab g n n = (List.range n).map g := by
 unfold tab
 exact List.map_congr_left (fun j hj => by rw [if_pos (by simpa using hj)])
theorem nx_maps {g : Nat → Nat} {n j : Nat} (hj : j < n) : nx ((List.range n).map g) j = g j := by
 rw [nx_get (by simpa using hj)]; simp
def oneK (f : List Nat) : Nat → Bool
 | 0 => nx f (lo f 0) == lo f 0
 | k + 1 => oneK f k && (lo f k == lo f 0)
theorem oneK_iff (f : List Nat) : ∀ k, oneK f k = true ↔ nx f (lo f 0) = lo f 0 ∧ ∀ j, j < k → lo f j = lo f 0
 | 0 => by simp [oneK]
 | k + 1 => by
  rw [oneK, Bool.and_eq_true, oneK_iff f k, beq_iff_eq]
  constructor
  · rintro ⟨⟨h1, h2⟩, h3⟩
    refine ⟨h1, fun j hj => ?_⟩
    rcases Nat.lt_or_ge j k with h | h
    · exact h2 j h
    · obtain rfl : j = k := by omega
      exact h3
  · rintro ⟨h1, h2⟩
    exact ⟨⟨h1, fun j hj => h2 j (by omega)⟩, h2 k (by omega)⟩
end
section
def behN (f g : List Nat) : List Nat := (List.range f.length).map (fun k => nx g (nx f k))
theorem behN_len (f g : List Nat) : (behN f g).length = f.length := by simp [behN]
theorem nx_behN {f g : List Nat} {k : Nat} (hk : k < f.length) : nx (behN f g) k = nx g (nx f k) := nx_maps hk
theorem behN_map {f g : List Nat} (hf : MapN f) (hg : MapN g) (hl : f.length = g.length) : MapN (behN f g) :=
 ⟨by rw [behN_len]; exact hf.pos, by rw [behN_len]; exact hf.le7, fun k hk => by
  rw [behN_len] at hk ⊢
  rw [nx_behN hk]
  have := hg.has _ (by rw [← hl]; exact hf.has k hk)
  omega⟩
def powN (f : List Nat) (t : Nat) : List Nat := (List.range f.length).map (it f t)
theorem powN_len (f : List Nat) (t : Nat) : (powN f t).length = f.length := by simp [powN]
theorem nx_powN {f : List Nat} {t k : Nat} (hk : k < f.length) : nx (powN f t) k = it f t k := nx_maps hk
theorem powN_map {f : List Nat} (hf : MapN f) (t : Nat) : MapN (powN f t) :=
 ⟨by rw [powN_len]; exact hf.pos, by rw [powN_len]; exact hf.le7, fun k hk => by rw [powN_len] at hk ⊢; rw [nx_powN hk]; exact it_lt hf hk t⟩
theorem powN_beh {f : List Nat} (hf : MapN f) (a b : Nat) : behN (powN f a) (powN f b) = powN f (b + a) := by
 refine lists_eq (by rw [behN_len, powN_len, powN_len]) (fun k hk => ?_)
 rw [behN_len, powN_len] at hk
 rw [nx_behN (by rw [powN_len]; exact hk), nx_powN hk, nx_powN hk, nx_powN (it_lt hf hk a), it_add]
theorem powN_one {f : List Nat} : powN f 1 = f := by
 refine lists_eq (powN_len f 1) (fun k hk => ?_)
 rw [powN_len] at hk
 rw [nx_powN hk, it_one]
theorem powN_half {f : List Nat} (hf : MapN f) {t : Nat} (h : t % 2 = 0) : behN (powN f (t / 2)) (powN f (t / 2)) = powN f t := by
 rw [powN_beh hf]; congr 1; omega
theorem powN_odd {f : List Nat} (hf : MapN f) {t : Nat} (h : t % 2 = 1) : behN (behN (powN f (t / 2)) (powN f (t / 2))) f = powN f t := by
 rw [powN_beh hf]
 have := powN_beh hf (t / 2 + t / 2) 1
 rw [powN_one] at this
 rw [this]; congr 1; omega
theorem same_pow (f : List Nat) : (List.range f.length).map (fun k => k) = powN f 0 := by
 unfold powN; exact List.map_congr_left (fun j _ => rfl)
def behI (xs ys : List Int) : List Int := if mapOk xs && mapOk ys && decide (xs.length = ys.length) then ints (behN (toN xs) (toN ys)) else []
theorem behI_ok {f g : List Nat} (hf : MapN f) (hg : MapN g) (hl : f.length = g.length) : behI (ints f) (ints g) = ints (behN f g) := by
 unfold behI; rw [mapOk_ints hf, mapOk_ints hg, ints_len, ints_len, decide_eq_true hl, toN_ints, toN_ints]; rfl
theorem behI_no1 {xs : List Int} (ys : List Int) (h : mapOk xs = false) : behI xs ys = [] := by unfold behI; rw [h]; rfl
theorem behI_no2 {xs ys : List Int} (h : mapOk ys = false) : behI xs ys = [] := by unfold behI; rw [h, Bool.and_false]; rfl
theorem behI_no3 {xs ys : List Int} (h : ¬ xs.length = ys.length) : behI xs ys = [] := by unfold behI; rw [decide_eq_false h, Bool.and_false]; rfl
def powI (xs : List Int) (t : Int) : List Int := if mapOk xs && inB t 0 1000000 then ints (powN (toN xs) t.toNat) else []
theorem powI_ok {f : List Nat} {t : Nat} (hf : MapN f) (ht : t ≤ 1000000) : powI (ints f) (t : Int) = ints (powN f t) := by
 unfold powI
 have : inB (t : Int) 0 1000000 = true := by rw [inB_iff]; omega
 rw [mapOk_ints hf, this, toN_ints]; simp
theorem powI_no1 {xs : List Int} (t : Int) (h : mapOk xs = false) : powI xs t = [] := by unfold powI; rw [h]; rfl
theorem powI_no2 {xs : List Int} {t : Int} (h : inB t 0 1000000 = false) : powI xs t = [] := by unfold powI; rw [h, Bool.and_false]; rfl
end
section
open Go.RowKit
end
section
open Go.RowKit
theorem tab_start {w : World} {B n : Nat} (g : Nat → Nat) (h : w.ownsRow B 3 1 (.slice (some ⟨B, 0, none⟩) n n) n (madeCells #[Value.int .i64 0] n).toList) :
    OwnIn w B (B + 1) (some ⟨B, 0, none⟩) n n (ints (tab g n 0)) := by
 rw [tab_zero]
 refine ⟨⟨by rw [ints_len]; simp, ?_⟩, fun k hk => by cases hk; exact Nat.lt_succ_self _⟩
 rw [ints_replicate, List.map_replicate]
 simpa [toList_madeCells_one, Value.cells] using h
theorem OwnIn.all_ {w : World} {B n c : Nat} {A : Option Addr} {xs : List Int} {g : Nat} (h : OwnIn w B g A n c xs) (hg : g ≤ w.heap.size) : OwnIn w B w.heap.size A n c xs := h.wide (Nat.le_refl _) hg
end
section
open Go.RowKit
set_option maxRecDepth 100000 in
set_option maxHeartbeats 800000 in
theorem sameOf_ok (n : Nat) (w : World) (h1 : 1 ≤ n) (h7 : n ≤ 7) :
    Calls Tryz.prog 206 #[.int .i64 (n : Int)] w (Row1 (ints ((List.range n).map (fun k => k))) w) := by
 obtain ⟨i0, hi, hz0, hz1, hz2⟩ := info_parts int_info
 go_enter Tryz.func206, Tryz.ntmps206
 go_wp2_with (at_make; refine wpList_make_full _ rfl _ _ 23 rfl w.heap.size 3 i0 (.int .i64 0) 1 Tryz.underlying23 hi hz0 hz1 _ _ _ _ n rfl rfl rfl rfl (by rw [hz2]; omega) (by unfold maxLen; omega) (Nat.le_refl _) ?_)
 intro w1 hown1 hg1
 have hb1 : Below w.heap.size w w1 := (Below.refl _ _).grown hg1 (Nat.le_refl _) (fun k hk => by cases hk)
 have ho1 := tab_start (fun k => k) hown1
 clear hown1 hg1
 go_wp2_with fail
 go_loopw [15] (fun i wr => ∃ k : Nat, k ≤ n ∧ i = .int .i64 k ∧ OwnIn wr w.heap.size (w.heap.size + 1) (some ⟨w.heap.size, 0, none⟩) n n (ints (tab (fun k => k) n k)) ∧ Below w.heap.size w wr) (fun i _ => n - (intOf i).toNat)
 case atStart => exact ⟨0, Nat.zero_le _, rfl, ho1, hb1⟩
 case round =>
  obtain ⟨k, hk, rfl, ho, hbw⟩ := hrel
  clear ho1 hb1 w1
  by_cases hlt : k < n
  · have hold := ho.cell (j := k) hlt
    have hfz := ho.frozen k
    have HST := Lib.hid (ho.store k (k : Int))
    have HT := Lib.hid (tab_succ (fun k => k) hlt)
    have HB := Lib.hid hbw
    clear ho hbw
    go_wp2_with fail
    go_roundw
    case rel => exact ⟨k + 1, by omega, by go_num, by have := HST.out.1; rwa [← ints_set, HT.out] at this, HB.out.trans (HST.out.2.below' (Nat.le_refl _) (by have := HB.out.size; omega))⟩
    case measure => simp [intOf]; omega
  · obtain rfl : k = n := by omega
    have HO := Lib.hid ho
    clear ho
    go_wp2_with fail
    go_ret
    exact ⟨_, _, _, rfl, by have := HO.out; rw [tab_all] at this; exact this.all_ (by have := (HO.out.lt w.heap.size rfl).2.2; omega), hbw⟩
set_option maxRecDepth 100000 in
set_option maxHeartbeats 1600000 in
theorem behindOf_ok (A A' : Option Addr) (c c' : Nat) (f g : List Nat) (w : World) (h : Rd w w.heap.size A f.length c (ints f)) (h' : Rd w w.heap.size A' f.length c' (ints g)) (hf : MapN f) (hg : MapN g) (hl : f.length = g.length) :
    Calls Tryz.prog 142 #[.slice A f.length c, .slice A' f.length c'] w (Row1 (ints (behN f g)) w) := by
 have h7 := hf.le7
 have h1 := hf.pos
 have hok := mapOk_ints hf
 have hok2 := mapOk_ints hg
 have hcp := h.cap
 have hmx := h.max
 have hcp2 := h'.cap
 have hmx2 := h'.max
 unfold maxLen at hmx hmx2
 obtain ⟨i0, hi, hz0, hz1, hz2⟩ := info_parts int_info
 obtain ⟨b1, off1, rfl, hbb1, hcells1⟩ := h.2.2.2 (by omega)
 obtain ⟨b2, off2, rfl, hbb2, hcells2⟩ := h'.2.2.2 (by omega)
 have HC1 := Lib.hid hcells1
 have HC2 := Lib.hid hcells2
 have HL := Lib.hid hl
 have hqn : ((f.length : Int) != (f.length : Int)) = false := by simp
 clear hcells1 hcells2 hl
 go_enter Tryz.func142, Tryz.ntmps142
 go_wp2_with fail
 refine (mapOk_c _ _ _ _ _ h).mono ?_
 rintro e w' ⟨rfl, rfl⟩
 rw [hok]
 go_wp2_with fail
 refine (mapOk_c _ _ _ _ _ h').mono ?_
 rintro e w' ⟨rfl, rfl⟩
 rw [hok2]
 go_wp2_with (at_make; refine wpList_make_full _ rfl _ _ 23 rfl w.heap.size 3 i0 (.int .i64 0) 1 Tryz.underlying23 hi hz0 hz1 _ _ _ _ f.length rfl rfl rfl rfl (by rw [hz2]; omega) (by unfold maxLen; omega) (Nat.le_refl _) ?_)
 intro w1 hown1 hg1
 have hB1 : Below w.heap.size w w1 := (Below.refl _ _).grown hg1 (Nat.le_refl _) (fun k hk => by cases hk)
 have ho1 := tab_start (fun k => nx g (nx f k)) hown1
 clear hown1 hg1
 go_wp2_with fail
 go_loopw [28] (fun i wr => ∃ k : Nat, k ≤ f.length ∧ i = .int .i64 k ∧ OwnIn wr w.heap.size (w.heap.size + 1) (some ⟨w.heap.size, 0, none⟩) f.length f.length (ints (tab (fun k => nx g (nx f k)) f.length k)) ∧ Below w.heap.size w wr) (fun i _ => f.length - (intOf i).toNat)
 case atStart => exact ⟨0, Nat.zero_le _, rfl, ho1, hB1⟩
 case round =>
  obtain ⟨k, hk, rfl, ho, hbw⟩ := hrel
  clear ho1 hB1 w1
  by_cases hlt : k < f.length
  · have hx := hf.has k hlt
    have hc1 := (hbw.cell (p := ⟨b1, off1 + k, none⟩) hbb1).trans (HC1.out k hlt)
    have hc2 := (hbw.cell (p := ⟨b2, off2 + nx f k, none⟩) hbb2).trans (HC2.out (nx f k) hx)
    rw [gI_ints] at hc1 hc2
    have hold := ho.cell (j := k) hlt
    have hfz := ho.frozen k
    have HST := Lib.hid (ho.store k ((nx g (nx f k) : Nat) : Int))
    have HT := Lib.hid (tab_succ (fun k => nx g (nx f k)) hlt)
    have HB := Lib.hid hbw
    generalize nx g (nx f k) = y at *
    generalize nx f k = x at *
    clear ho hbw
    go_wp2_with fail
    go_roundw
    case rel => exact ⟨k + 1, by omega, by go_num, by have := HST.out.1; rwa [← ints_set, HT.out] at this, HB.out.trans (HST.out.2.below' (Nat.le_refl _) (by have := HB.out.size; omega))⟩
    case measure => simp [intOf]; omega
  · obtain rfl : k = f.length := by omega
    have HO := Lib.hid ho
    clear ho
    go_wp2_with fail
    go_ret
    exact ⟨_, _, _, rfl, by have := HO.out; rw [tab_all] at this; exact this.all_ (by have := (HO.out.lt w.heap.size rfl).2.2; omega), hbw⟩
theorem behindOf_ok' (A A' : Option Addr) (n n' c c' : Nat) (f g : List Nat) (w : World) (h : Rd w w.heap.size A n c (ints f)) (h' : Rd w w.heap.size A' n' c' (ints g)) (hf : MapN f) (hg : MapN g) (hl : f.length = g.length) :
    Calls Tryz.prog 142 #[.slice A n c, .slice A' n' c'] w (Row1 (ints (behN f g)) w) := by
 obtain rfl : n = f.length := by rw [← h.len, ints_len]
 obtain rfl : n' = f.length := by rw [← h'.len, ints_len, hl]
 exact behindOf_ok A A' c c' f g w h h' hf hg hl
set_option maxRecDepth 100000 in
set_option maxHeartbeats 1600000 in
theorem powerOf_ok (A : Option Addr) (c : Nat) (f : List Nat) (hf : MapN f) : ∀ (t : Nat) (w : World), t ≤ 1000000 → Rd w w.heap.size A f.length c (ints f) →
    Calls Tryz.prog 174 #[.slice A f.length c, .int .i64 (t : Int)] w (Row1 (ints (powN f t)) w) := by
 intro t
 induction t using Nat.strongRecOn with
 | _ t ih =>
 intro w ht h
 have h7 := hf.le7
 have h1 := hf.pos
 by_cases h0 : t = 0
 · have HS := Lib.hid (same_pow f)
   subst h0
   clear ih
   go_enter Tryz.func174, Tryz.ntmps174
   go_wp2_with fail
   refine (sameOf_ok f.length _ h1 h7).mono ?_
   rintro e w1 ⟨A1, n1, c1, rfl, hO1, hb1⟩
   rw [HS.out] at hO1
   go_wp2_with fail
   go_ret
   exact ⟨A1, n1, c1, rfl, hO1, hb1⟩
 · have hq : ((t : Int) == 0) = false := by rw [beq_eq_false_iff_ne]; omega
   have hih : Hid (Calls Tryz.prog 174 #[.slice A f.length c, .int .i64 ((t : Int) / 2)] w (Row1 (ints (powN f (t / 2))) w)) := by
    have := ih (t / 2) (by omega) w (by omega) h
    rwa [show (((t / 2 : Nat)) : Int) = (t : Int) / 2 by simp] at this
   have hpm := powN_map hf (t / 2)
   have hpl := powN_len f (t / 2)
   have hbm := Lib.hid (behN_map hpm hpm rfl)
   have hbl := Lib.hid ((behN_len (powN f (t / 2)) (powN f (t / 2))).trans hpl)
   have HH := Lib.hid (fun hh => powN_half hf (t := t) hh)
   have HO := Lib.hid (fun hh => powN_odd hf (t := t) hh)
   have HPL := Lib.hid hpl
   have HPM := Lib.hid hpm
   clear ih hpm hpl
   go_enter Tryz.func174, Tryz.ntmps174
   go_wp2_with fail
   refine hih.out.mono ?_
   rintro e w1 ⟨A1, n1, c1, rfl, hO1, hb1⟩
   have hr1 := hO1.rd
   generalize powN f (t / 2) = H at *
   go_wp2_with fail
   refine (behindOf_ok' _ _ _ _ _ _ H H _ hr1 hr1 HPM.out HPM.out rfl).mono ?_
   rintro e w2 ⟨A2, n2, c2, rfl, hO2, hb2⟩
   have hB2 := bt hb1 hb2
   have hO2' := hO2.wide (lo' := w.heap.size) hb1.size (Nat.le_refl _)
   have hr2 := hO2.rd
   have hrf := (h.up hb1).up hb2
   clear hO1 hr1 hb1 hb2 hO2
   rcases Nat.mod_two_eq_zero_or_one t with hp | hp
   · have hq1 : ((t : Int) % 2 == 1) = false := by rw [beq_eq_false_iff_ne]; omega
     have hP := Lib.hid (HH.out hp)
     clear HH HO hp
     go_wp2_with fail
     go_ret
     exact ⟨A2, n2, c2, rfl, by rw [← hP.out]; exact hO2', hB2⟩
   · have hq1 : ((t : Int) % 2 == 1) = true := by rw [beq_iff_eq]; omega
     have hP := Lib.hid (HO.out hp)
     clear HH HO hp
     go_wp2_with fail
     refine (behindOf_ok' _ _ _ _ _ _ (behN H H) f _ hr2 hrf hbm.out hf hbl.out).mono ?_
     rintro e w3 ⟨A3, n3, c3, rfl, hO3, hb3⟩
     have hB3 := bt hB2 hb3
     have hO3' := hO3.wide (lo' := w.heap.size) hB2.size (Nat.le_refl _)
     clear hO3 hb3
     go_wp2_with fail
     go_ret
     exact ⟨A3, n3, c3, rfl, by rw [← hP.out]; exact hO3', hB3⟩
end
section
open Go.RowKit
def smX (k : Nat) : List Int := ints ((List.range k).map (fun j => j))
theorem smX_len (k : Nat) : (smX k).length = k := by simp [smX, ints_len]
theorem smX_succ (k : Nat) : smX (k + 1) = smX k ++ [(k : Int)] := by simp [smX, ints, List.range_succ]
set_option maxRecDepth 100000 in
set_option maxHeartbeats 800000 in
theorem sSameOf_ok (n : Nat) (w : World) (h7 : n ≤ 7) :
    Calls Tryz.prog 194 #[.int .i64 (n : Int)] w (Row1 (smX n) w) := by
 have hB0 : Below w.heap.size w (w.alloc (Obj.cells #[] 3)) := (Below.refl _ _).alloc (Nat.le_refl _) _
 have hO0 := OwnV.made w w.heap.size #[] (Nat.le_refl _) rfl
 go_enter Tryz.func194, Tryz.ntmps194
 go_wp2_with fail
 generalize w.alloc (Obj.cells #[] 3) = w0 at hB0 hO0 ⊢
 go_loopw [3, 4] (fun v i wr => ∃ k : Nat, k ≤ n ∧ i = .int .i64 k ∧ OwnV wr w.heap.size v (smX k) ∧ Below w.heap.size w wr) (fun _ i _ => n - (intOf i).toNat)
 case atStart => exact ⟨0, Nat.zero_le _, rfl, hO0, hB0⟩
 case round =>
  obtain ⟨k, hk, rfl, hown, hbw⟩ := hrel
  have hsz := hbw.size
  by_cases hlt : k < n
  · have HT := Lib.hid (smX_succ k)
    have hln : (smX k).length ≤ 1000000000000 := by rw [smX_len]; omega
    go_wp2_with (at_builtin; refine app_int wr _ rfl _ _ rfl w.heap.size _ (smX k) rfl hown rfl hln hsz ?_; intro v' w3 hown3 hb3)
    go_roundw
    case rel => exact ⟨k + 1, by omega, by go_num, by rw [HT.out]; exact hown3, hbw.trans hb3⟩
    case measure => simp [intOf]; omega
  · obtain rfl : k = n := by omega
    go_wp2_with fail
    go_ret
    exact hown.row hbw
end
section
open Go.RowKit
theorem sMapOk_b (A : Option Addr) (n c : Nat) (xs : List Int) (b : Bool) (w : World) (h : Rd w w.heap.size A n c xs) (hb : mapOk xs = b) :
    Calls Tryz.prog 67 #[.slice A n c] w fun e w' => e = .returned (.bool b) ∧ w = w' := by
 subst hb
 exact sMapOk_c _ _ _ _ _ h
def behX (f g : List Nat) (k : Nat) : List Int := ints ((List.range k).map (fun j => nx g (nx f j)))
theorem behX_len (f g : List Nat) (k : Nat) : (behX f g k).length = k := by simp [behX, ints_len]
theorem behX_succ (f g : List Nat) (k : Nat) : behX f g (k + 1) = behX f g k ++ [((nx g (nx f k) : Nat) : Int)] := by simp [behX, ints, List.range_succ]
set_option maxRecDepth 100000 in
set_option maxHeartbeats 1600000 in
theorem sBehindOf_ok (A A' : Option Addr) (c c' : Nat) (f g : List Nat) (w : World) (h : Rd w w.heap.size A f.length c (ints f)) (h' : Rd w w.heap.size A' f.length c' (ints g)) (hf : MapN f) (hg : MapN g) (hl : f.length = g.length) :
    Calls Tryz.prog 159 #[.slice A f.length c, .slice A' f.length c'] w (Row1 (ints (behN f g)) w) := by
 have h7 := hf.le7
 have h1 := hf.pos
 have hok := mapOk_ints hf
 have hok2 := mapOk_ints hg
 have hcp := h.cap
 have hmx := h.max
 have hcp2 := h'.cap
 have hmx2 := h'.max
 unfold maxLen at hmx hmx2
 have hB0 : Below w.heap.size w (w.alloc (Obj.cells #[] 3)) := (Below.refl _ _).alloc (Nat.le_refl _) _
 have hO0 := OwnV.made w w.heap.size #[] (Nat.le_refl _) rfl
 have HW : Hid (ints (behN f g) = behX f g f.length) := Lib.hid rfl
 obtain ⟨b1, off1, rfl, hbb1, hcells1⟩ := h.2.2.2 (by omega)
 obtain ⟨b2, off2, rfl, hbb2, hcells2⟩ := h'.2.2.2 (by omega)
 have HC1 := Lib.hid hcells1
 have HC2 := Lib.hid hcells2
 have HL := Lib.hid hl
 have hqn : ((f.length : Int) == (f.length : Int)) = true := by simp
 clear hcells1 hcells2 hl
 go_enter Tryz.func159, Tryz.ntmps159
 go_wp2_with fail
 generalize w.alloc (Obj.cells #[] 3) = w0 at hB0 hO0 ⊢
 go_loopw [5, 6] (fun v i wr => ∃ k : Nat, k ≤ f.length ∧ i = .int .i64 k ∧ OwnV wr w.heap.size v (behX f g k) ∧ Below w.heap.size w wr) (fun _ i _ => f.length - (intOf i).toNat)
 case atStart => exact ⟨0, Nat.zero_le _, rfl, hO0, hB0⟩
 case round =>
  obtain ⟨k, hk, rfl, hown, hbw⟩ := hrel
  have hr1 := h.up hbw
  have hr2 := h'.up hbw
  have K1 := sMapOk_b _ _ _ _ _ _ hr1 hok
  have K2 := sMapOk_b _ _ _ _ _ _ hr2 hok2
  have hsz := hbw.size
  clear hr1 hr2
  by_cases hlt : k < f.length
  · have hx := hf.has k hlt
    have hc1 := (hbw.cell (p := ⟨b1, off1 + k, none⟩) hbb1).trans (HC1.out k hlt)
    have hc2 := (hbw.cell (p := ⟨b2, off2 + nx f k, none⟩) hbb2).trans (HC2.out (nx f k) hx)
    rw [gI_ints] at hc1 hc2
    have HT := Lib.hid (behX_succ f g k)
    have hln : (behX f g k).length ≤ 1000000000000 := by rw [behX_len]; omega
    generalize nx g (nx f k) = y at *
    generalize nx f k = x at *
    go_wp2_with (first
     | (go_at_call 67; with_reducible refine K1.mono ?_; rintro e w' ⟨rfl, rfl⟩)
     | (go_at_call 67; with_reducible refine K2.mono ?_; rintro e w' ⟨rfl, rfl⟩)
     | (at_builtin; refine app_int wr _ rfl _ _ rfl w.heap.size _ (behX f g k) rfl hown rfl hln hsz ?_; intro v' w3 hown3 hb3))
    go_roundw
    case rel => exact ⟨k + 1, by omega, by go_num, by rw [HT.out]; exact hown3, hbw.trans hb3⟩
    case measure => simp [intOf]; omega
  · obtain rfl : k = f.length := by omega
    go_wp2_with fail
    go_ret
    exact (show OwnV wr w.heap.size _ _ by rw [HW.out]; exact hown).row hbw
set_option maxRecDepth 100000 in
set_option maxHeartbeats 1600000 in
theorem sBehindOf_c (A A' : Option Addr) (n n' c c' : Nat) (xs ys : List Int) (w : World) (h : Rd w w.heap.size A n c xs) (h' : Rd w w.heap.size A' n' c' ys) :
    Calls Tryz.prog 159 #[.slice A n c, .slice A' n' c'] w (Row1 (behI xs ys) w) := by
 by_cases hall : (mapOk xs = true ∧ mapOk ys = true) ∧ xs.length = ys.length
 · obtain ⟨⟨hx, hy⟩, hl⟩ := hall
   obtain ⟨f, rfl, hf⟩ := mapOk_ex hx
   obtain ⟨g, rfl, hg⟩ := mapOk_ex hy
   rw [ints_len, ints_len] at hl
   obtain rfl : n = f.length := by rw [← h.len, ints_len]
   obtain rfl : n' = f.length := by rw [← h'.len, ints_len, hl]
   rw [behI_ok hf hg hl]
   exact sBehindOf_ok A A' c c' f g w h h' hf hg hl
 · have hno : behI xs ys = [] := by
    rcases hx : mapOk xs with _ | _
    · exact behI_no1 ys hx
    · rcases hy : mapOk ys with _ | _
      · exact behI_no2 hy
      · exact behI_no3 (fun hl => hall ⟨⟨hx, hy⟩, hl⟩)
   have HW := Lib.hid hno
   have hB0 : Below w.heap.size w (w.alloc (Obj.cells #[] 3)) := (Below.refl _ _).alloc (Nat.le_refl _) _
   have hO0 := OwnV.made w w.heap.size #[] (Nat.le_refl _) rfl
   have h0 := h.up hB0
   have h0' := h'.up hB0
   have hl := h.len
   have hl' := h'.len
   have hcp := h.cap
   have hmx := h.max
   have hcp2 := h'.cap
   have hmx2 := h'.max
   unfold maxLen at hmx hmx2
   have hcase : n = 0 ∨ (0 < n ∧ ((n : Int) == (n' : Int)) = false) ∨ (0 < n ∧ ((n : Int) == (n' : Int)) = true ∧ (mapOk xs = false ∨ (mapOk xs = true ∧ mapOk ys = false))) := by
    rcases Nat.eq_zero_or_pos n with h0 | h0
    · exact .inl h0
    · by_cases he : n = n'
      · refine .inr (.inr ⟨h0, by rw [he]; simp, ?_⟩)
        rcases hx : mapOk xs with _ | _
        · exact .inl rfl
        · rcases hy : mapOk ys with _ | _
          · exact .inr ⟨rfl, rfl⟩
          · exact absurd ⟨⟨hx, hy⟩, by omega⟩ hall
      · exact .inr (.inl ⟨h0, by rw [beq_eq_false_iff_ne]; omega⟩)
   clear hall hno hl hl'
   go_enter Tryz.func159, Tryz.ntmps159
   go_wp2_with fail
   generalize w.alloc (Obj.cells #[] 3) = w1 at hB0 hO0 h0 h0' ⊢
   go_loopw [5, 6] (fun v i wr => v = .slice (some ⟨w.heap.size, 0, none⟩) 0 0 ∧ i = .int .i64 0 ∧ wr = w1) (fun _ i _ => 0)
   case atStart => exact ⟨rfl, rfl, rfl⟩
   case round =>
    obtain ⟨rfl, rfl, rfl⟩ := hrel
    rcases hcase with hz | ⟨hp, hq⟩ | ⟨hp, hq, hx | ⟨hx, hy⟩⟩
    · have hn : ¬ 0 < n := by omega
      clear hz
      go_wp2_with fail
      go_ret
      exact (show OwnV _ w.heap.size _ _ by rw [HW.out]; exact hO0).row hB0
    · go_wp2_with fail
      go_ret
      exact (show OwnV _ w.heap.size _ _ by rw [HW.out]; exact hO0).row hB0
    · have K1 := sMapOk_b _ _ _ _ _ _ h0 hx
      clear hx
      go_wp2_with (go_at_call 67; with_reducible refine K1.mono ?_; rintro e w' ⟨rfl, rfl⟩)
      go_ret
      exact (show OwnV _ w.heap.size _ _ by rw [HW.out]; exact hO0).row hB0
    · have K1 := sMapOk_b _ _ _ _ _ _ h0 hx
      have K2 := sMapOk_b _ _ _ _ _ _ h0' hy
      clear hx hy
      go_wp2_with (first
       | (go_at_call 67; with_reducible refine K1.mono ?_; rintro e w' ⟨rfl, rfl⟩)
       | (go_at_call 67; with_reducible refine K2.mono ?_; rintro e w' ⟨rfl, rfl⟩))
      go_ret
      exact (show OwnV _ w.heap.size _ _ by rw [HW.out]; exact hO0).row hB0
end
section
open Go.RowKit
theorem sBehindOf_ok' (A A' : Option Addr) (n n' c c' : Nat) (f g : List Nat) (w : World) (h : Rd w w.heap.size A n c (ints f)) (h' : Rd w w.heap.size A' n' c' (ints g)) (hf : MapN f) (hg : MapN g) (hl : f.length = g.length) :
    Calls Tryz.prog 159 #[.slice A n c, .slice A' n' c'] w (Row1 (ints (behN f g)) w) := by
 have := sBehindOf_c A A' n n' c c' (ints f) (ints g) w h h'
 rwa [behI_ok hf hg hl] at this
theorem pw_odd {a s m t : Nat} (h : a + s * m = t) (hm : m % 2 = 1) : s + a + (s + s) * (m / 2) = t := by
 have h2 : s * m = s * (2 * (m / 2) + 1) := congrArg (s * ·) (by omega)
 rw [h2, Nat.mul_add, Nat.mul_left_comm] at h
 rw [Nat.add_mul]
 omega
theorem pw_even {a s m t : Nat} (h : a + s * m = t) (hm : m % 2 = 0) : a + (s + s) * (m / 2) = t := by
 have h2 : s * m = s * (2 * (m / 2)) := congrArg (s * ·) (by omega)
 rw [h2, Nat.mul_left_comm] at h
 rw [Nat.add_mul]
 omega
set_option maxRecDepth 100000 in
set_option maxHeartbeats 3200000 in
theorem sPowerOf_ok (A : Option Addr) (c : Nat) (f : List Nat) (t : Nat) (w : World) (hf : MapN f) (ht : t ≤ 1000000) (h : Rd w w.heap.size A f.length c (ints f)) :
    Calls Tryz.prog 160 #[.slice A f.length c, .int .i64 (t : Int)] w (Row1 (ints (powN f t)) w) := by
 have h7 := hf.le7
 have h1 := hf.pos
 have hok := mapOk_ints hf
 have hin : inB (t : Int) 0 1000000 = true := by rw [inB_iff]; omega
 have HS : Hid (smX f.length = ints (powN f 0)) := Lib.hid (congrArg ints (same_pow f))
 have HO1 : Hid (ints f = ints (powN f 1)) := Lib.hid (congrArg ints powN_one.symm)
 go_enter Tryz.func160, Tryz.ntmps160
 go_wp2_with (first
  | (go_at_call 67; refine (sMapOk_c _ _ _ _ _ h).mono ?_; rintro e w' ⟨rfl, rfl⟩; rw [hok])
  | (go_at_call 129; refine (l1In_c _ _ _ _).mono ?_; rintro e w' ⟨rfl, rfl⟩; rw [hin]))
 refine (sSameOf_ok f.length _ h7).mono ?_
 rintro e w1 ⟨A1, n1, c1, rfl, hR1, hb1⟩
 rw [HS.out] at hR1
 have hr1 := h.up hb1
 have hB2 : Below w1.heap.size w1 (w1.alloc (Obj.cells #[] 3)) := (Below.refl _ _).alloc (Nat.le_refl _) _
 have hO2 := OwnV.made w1 w1.heap.size #[] (Nat.le_refl _) rfl
 have hr2 := hr1.up hB2
 have hs2 := hB2.size
 have hn12 : f.length ≤ 1000000000000 := by omega
 go_wp2_with (at_builtin; refine app_row (w1.alloc (.cells #[] 3)) rfl _ _ rfl w1.heap.size _ rfl hO2 A f.length c (ints f) rfl hr2 h1 hn12 hs2 ?_; intro v' w2 hown' hb')
 have hb2 := hB2.trans hb'
 obtain ⟨A2, c2, rfl, hQ2⟩ := hown'.slice_
 rw [ints_len] at hQ2 ⊢
 have hB := bt hb1 hb2
 have hQ := hQ2.wide (lo' := w.heap.size) hb1.size (Nat.le_refl _)
 have hP := (hR1.up hb2).wide (Nat.le_refl _) hb2.size
 rw [HO1.out] at hQ
 clear hB2 hO2 hr2 hs2 hb' hb2 hown' hQ2 hR1 hr1 hb1 h
 go_loopw [5, 6, 7] (fun o q i wr => ∃ (a s m : Nat) (A3 A4 : Option Addr) (n3 n4 c3 c4 : Nat), a + s * m = t ∧ m ≤ 1000000 ∧ i = .int .i64 m ∧ o = .slice A3 n3 c3 ∧ q = .slice A4 n4 c4 ∧ OwnIn wr w.heap.size wr.heap.size A3 n3 c3 (ints (powN f a)) ∧ OwnIn wr w.heap.size wr.heap.size A4 n4 c4 (ints (powN f s)) ∧ Below w.heap.size w wr) (fun _ _ i _ => (intOf i).toNat)
 case atStart => exact ⟨0, 1, t, _, _, _, _, _, _, by omega, ht, rfl, rfl, rfl, hP, hQ, hB⟩
 case round =>
  obtain ⟨a, s, m, A3, A4, n3, n4, c3, c4, he, hm, rfl, rfl, rfl, hP3, hQ3, hbw⟩ := hrel
  clear hP hQ hB ht hin
  have HE := Lib.hid he
  have hpm := powN_map hf a
  have hqm := powN_map hf s
  have HPL := Lib.hid ((powN_len f a).trans (powN_len f s).symm)
  have HPQ := Lib.hid (powN_beh hf a s)
  have HQQ := Lib.hid (powN_beh hf s s)
  have HPM := Lib.hid hpm
  have HQM := Lib.hid hqm
  clear he hpm hqm
  by_cases h0 : m = 0
  · have HZ : Hid (ints (powN f a) = ints (powN f t)) := Lib.hid (by rw [show a = t by have := HE.out; rw [h0] at this; simpa using this])
    subst h0
    go_wp2_with fail
    go_ret
    exact ⟨_, _, _, rfl, by rw [← HZ.out]; exact hP3, hbw⟩
  · have hm0 : 0 < m := by omega
    generalize hPe : powN f a = P at *
    generalize hQe : powN f s = Q at *
    have hp3 := hP3.rd
    have hq3 := hQ3.rd
    rcases Nat.mod_two_eq_zero_or_one m with hp | hp
    · have hq1 : ((m : Int) % 2 == 1) = false := by rw [beq_eq_false_iff_ne]; omega
      have HN := Lib.hid (pw_even HE.out hp)
      have HPe := Lib.hid hPe
      clear hp hPe hQe
      go_wp2_with fail
      refine (sBehindOf_ok' _ _ _ _ _ _ Q Q _ hq3 hq3 HQM.out HQM.out rfl).mono ?_
      rintro e w3 ⟨A5, n5, c5, rfl, hO5, hb5⟩
      have hO5' := hO5.wide (lo' := w.heap.size) hbw.size (Nat.le_refl _)
      have hP5 := (hP3.up hb5).wide (Nat.le_refl _) hb5.size
      have hB5 := bt hbw hb5
      rw [HQQ.out] at hO5'
      rw [← HPe.out] at hP5
      go_wp2_with fail
      go_roundw
      case rel => exact ⟨a, s + s, m / 2, _, _, _, _, _, _, HN.out, by omega, by go_num, rfl, rfl, hP5, hO5', hB5⟩
      case measure => simp [intOf]; omega
    · have hq1 : ((m : Int) % 2 == 1) = true := by rw [beq_iff_eq]; omega
      have HN := Lib.hid (pw_odd HE.out hp)
      clear hp hPe hQe
      go_wp2_with fail
      refine (sBehindOf_ok' _ _ _ _ _ _ P Q _ hp3 hq3 HPM.out HQM.out HPL.out).mono ?_
      rintro e w3 ⟨A5, n5, c5, rfl, hO5, hb5⟩
      have hO5' := hO5.wide (lo' := w.heap.size) hbw.size (Nat.le_refl _)
      have hB5 := bt hbw hb5
      have hq5 := hq3.up hb5
      rw [HPQ.out] at hO5'
      go_wp2_with fail
      have hq6 := hq5
      refine (sBehindOf_ok' _ _ _ _ _ _ Q Q _ hq6 hq6 HQM.out HQM.out rfl).mono ?_
      rintro e w4 ⟨A6, n6, c6, rfl, hO6, hb6⟩
      have hO6' := hO6.wide (lo' := w.heap.size) hB5.size (Nat.le_refl _)
      have hP6 := (hO5'.up hb6).wide (Nat.le_refl _) hb6.size
      have hB6 := bt hB5 hb6
      rw [HQQ.out] at hO6'
      go_wp2_with fail
      go_roundw
      case rel => exact ⟨s + a, s + s, m / 2, _, _, _, _, _, _, HN.out, by omega, by go_num, rfl, rfl, hP6, hO6', hB6⟩
      case measure => simp [intOf]; omega
end
section
theorem turned_inj {f : List Nat} (ht : turned f = true) {i j : Nat} (hi : i < f.length) (hj : j < f.length) (he : nx f i = nx f j) : i = j := by
 unfold turned at ht
 rw [decide_eq_true_eq] at ht
 rw [nx_get hi, nx_get hj] at he
 exact (List.getElem_inj ht).1 he
theorem nx_backK {f : List Nat} (hf : MapN f) (ht : turned f = true) : ∀ j, j ≤ f.length → ∀ i, i < j → nx (backK f j) (nx f i) = i
 | 0, _, i, hi => by omega
 | j + 1, hj, i, hi => by
  have hx := hf.has i (by omega)
  rw [backK, nx_set (by rw [backK_len]; exact hx)]
  by_cases he : nx f j = nx f i
  · rw [if_pos he]; exact turned_inj ht (by omega) (by omega) he
  · rw [if_neg he]
    refine nx_backK hf ht j (by omega) i ?_
    rcases Nat.lt_or_ge i j with h | h
    · exact h
    · exfalso; apply he; rw [show i = j by omega]
theorem nx_back {f : List Nat} (hf : MapN f) (ht : turned f = true) {i : Nat} (hi : i < f.length) : nx (backN f) (nx f i) = i := nx_backK hf ht f.length (Nat.le_refl _) i hi
theorem turned_has {f : List Nat} (hf : MapN f) (ht : turned f = true) {k : Nat} (hk : k < f.length) : ∃ i, i < f.length ∧ nx f i = k := by
 unfold turned at ht
 rw [decide_eq_true_eq] at ht
 obtain ⟨i, hi, e⟩ := List.mem_iff_getElem.1 (nodup_all hf ht hk)
 exact ⟨i, hi, by rw [nx_get hi]; exact e⟩
theorem back_len (f : List Nat) : (backN f).length = f.length := backK_len f _
theorem back_map {f : List Nat} (hf : MapN f) (ht : turned f = true) : MapN (backN f) :=
 ⟨by rw [back_len]; exact hf.pos, by rw [back_len]; exact hf.le7, fun k hk => by
  rw [back_len] at hk ⊢
  obtain ⟨i, hi, rfl⟩ := turned_has hf ht hk
  rw [nx_back hf ht hi]; exact hi⟩
theorem fromX_one {f : List Nat} (ht : turned f = true) {i : Nat} (hi : i < f.length) : ∀ m, m ≤ f.length → fromX (ints f) ((nx f i : Nat) : Int) m = if i < m then [(i : Int)] else []
 | 0, _ => by simp [fromX]
 | m + 1, hm => by
  have ih := fromX_one ht hi m (by omega)
  by_cases he : nx f m = nx f i
  · have hmi := turned_inj ht (by omega) hi he
    subst hmi
    rw [fromX_t (by rw [gI_ints]), ih, if_neg (by omega), if_pos (by omega)]; rfl
  · rw [fromX_f (by rw [gI_ints]; omega), ih]
    have hne : i ≠ m := fun e => he (by rw [e])
    by_cases h2 : i < m
    · rw [if_pos h2, if_pos (by omega)]
    · rw [if_neg h2, if_neg (by omega)]
theorem fromI_one {f : List Nat} (hf : MapN f) (ht : turned f = true) {k : Nat} (hk : k < f.length) : fromI (ints f) (k : Int) = [((nx (backN f) k : Nat) : Int)] := by
 obtain ⟨i, hi, rfl⟩ := turned_has hf ht hk
 rw [fromI_ok _ (mapOk_ints hf), ints_len, fromX_one ht hi _ (Nat.le_refl _), if_pos hi, nx_back hf ht hi]
theorem turned_ones {f : List Nat} (hf : MapN f) (h : ∀ k, k < f.length → (fromI (ints f) (k : Int)).length = 1) : turned f = true := by
 unfold turned
 rw [decide_eq_true_eq]
 refine all_nodup (fun j hj => ?_)
 have h2 := h j hj
 rw [fromI_count hf] at h2
 exact List.count_pos_iff.1 (by omega)
def namI (xs ys : List Int) : List Int := if mapOk xs && mapOk ys && decide (xs.length = ys.length) && turned (toN ys) then ints (behN (behN (backN (toN ys)) (toN xs)) (toN ys)) else []
theorem namI_ok {f g : List Nat} (hf : MapN f) (hg : MapN g) (hl : f.length = g.length) (ht : turned g = true) : namI (ints f) (ints g) = ints (behN (behN (backN g) f) g) := by
 unfold namI; rw [mapOk_ints hf, mapOk_ints hg, ints_len, ints_len, decide_eq_true hl, toN_ints, toN_ints, ht]; rfl
theorem namI_no1 {xs : List Int} (ys : List Int) (h : mapOk xs = false) : namI xs ys = [] := by unfold namI; rw [h]; rfl
theorem namI_no2 {xs ys : List Int} (h : mapOk ys = false) : namI xs ys = [] := by unfold namI; rw [h, Bool.and_false]; rfl
theorem namI_no3 {xs ys : List Int} (h : ¬ xs.length = ys.length) : namI xs ys = [] := by unfold namI; rw [decide_eq_false h, Bool.and_false]; rfl
theorem namI_no4 {xs ys : List Int} (h : turned (toN ys) = false) : namI xs ys = [] := by unfold namI; rw [h, Bool.and_false]; rfl
end
section
open Go.RowKit
theorem OwnV.rowB {xs : List Int} {w w' : World} {v : Value} (b : Bool) (hO : OwnV w' w.heap.size v xs) (hb : Below w.heap.size w w') : RowBool w xs b (.returned (.tuple #[v, .bool b])) w' := by
 obtain ⟨A, c, rfl, hI⟩ := hO.slice_
 exact ⟨A, _, c, rfl, hI, hb⟩
def tkX (f : List Nat) (k : Nat) : List Int := ints ((List.range k).map (nx f))
theorem tkX_len (f : List Nat) (k : Nat) : (tkX f k).length = k := by simp [tkX, ints_len]
theorem tkX_succ (f : List Nat) (k : Nat) : tkX f (k + 1) = tkX f k ++ [((nx f k : Nat) : Int)] := by simp [tkX, ints, List.range_succ]
theorem tkX_all (f : List Nat) : tkX f f.length = ints f := by
 unfold tkX
 congr 1
 refine lists_eq (by simp) (fun k hk => ?_)
 rw [List.length_map, List.length_range] at hk
 exact nx_maps hk
def turI (xs : List Int) : List Int := if mapOk xs && turned (toN xs) then ints (backN (toN xs)) else []
def turB (xs : List Int) : Bool := mapOk xs && turned (toN xs)
set_option maxRecDepth 100000 in
set_option maxHeartbeats 3200000 in
theorem sTurnedOf_c (A : Option Addr) (n c : Nat) (xs : List Int) (w : World) (h : Rd w w.heap.size A n c xs) :
    Calls Tryz.prog 195 #[.slice A n c] w (RowBool w (turI xs) (turB xs)) := by
 have hB0 : Below w.heap.size w (w.alloc (Obj.cells #[] 3)) := (Below.refl _ _).alloc (Nat.le_refl _) _
 have hO0 := OwnV.made w w.heap.size #[] (Nat.le_refl _) rfl
 have h0 := h.up hB0
 have hl := h.len
 have hcp := h.cap
 have hmx := h.max
 unfold maxLen at hmx
 rcases hs : mapOk xs with _ | _
 · have hE1 : turI xs = [] := by unfold turI; rw [hs]; rfl
   have hE2 : turB xs = false := by unfold turB; rw [hs]; rfl
   rw [hE1, hE2]
   clear hE1 hE2 hl
   go_enter Tryz.func195, Tryz.ntmps195
   go_wp2_with fail
   generalize w.alloc (Obj.cells #[] 3) = w1 at hB0 hO0 h0 ⊢
   go_loopw [4, 5] (fun v i wr => v = .slice (some ⟨w.heap.size, 0, none⟩) 0 0 ∧ i = .int .i64 0 ∧ wr = w1) (fun _ i _ => 0)
   case atStart => exact ⟨rfl, rfl, rfl⟩
   case round =>
    obtain ⟨rfl, rfl, rfl⟩ := hrel
    by_cases hn : 0 < n
    · go_wp2_with (go_at_call 67; refine (sMapOk_c _ _ _ _ _ h0).mono ?_; rintro e w' ⟨rfl, rfl⟩)
      go_ret2
      exact OwnV.rowB false hO0 hB0
    · go_wp2_with (go_at_call 67; refine (sMapOk_c _ _ _ _ _ h0).mono ?_; rintro e w' ⟨rfl, rfl⟩)
      go_ret2
      exact OwnV.rowB false hO0 hB0
 · obtain ⟨f, rfl, hf⟩ := mapOk_ex hs
   rw [ints_len] at hl
   subst hl
   have h7 := hf.le7
   have h1 := hf.pos
   have K0 := sMapOk_b _ _ _ _ _ _ h0 hs
   rcases ht : turned f with _ | _
   · have hE1 : turI (ints f) = [] := by unfold turI; rw [toN_ints, ht, Bool.and_false]; rfl
     have hE2 : turB (ints f) = false := by unfold turB; rw [toN_ints, ht, Bool.and_false]
     rw [hE1, hE2]
     have HT1 := Lib.hid (fun hh => turned_ones (f := f) hf hh)
     have HT := Lib.hid ht
     clear hE1 hE2 ht K0
     go_enter Tryz.func195, Tryz.ntmps195
     go_wp2_with fail
     generalize w.alloc (Obj.cells #[] 3) = w0 at hB0 hO0 h0 ⊢
     go_loopw [4, 5] (fun v i wr => ∃ (k : Nat) (ys : List Int), k ≤ f.length ∧ ys.length = k ∧ (∀ j, j < k → (fromI (ints f) (j : Int)).length = 1) ∧ i = .int .i64 k ∧ OwnV wr w.heap.size v ys ∧ Below w.heap.size w wr) (fun _ i _ => f.length - (intOf i).toNat)
     case atStart => exact ⟨0, [], Nat.zero_le _, rfl, (fun j hj => absurd hj (Nat.not_lt_zero _)), rfl, hO0, hB0⟩
     case round =>
      obtain ⟨k, ys, hk, hyl, hall, rfl, hown, hbw⟩ := hrel
      have hrd := h.up hbw
      have HA := Lib.hid hall
      clear hall
      have HY := Lib.hid hyl
      have hln : ys.length ≤ 1000000000000 := by omega
      clear hyl
      have K1 := sMapOk_b _ _ _ _ _ _ hrd hs
      have K2 := sFromOf_c _ _ _ _ (k : Int) _ hrd
      by_cases hlt : k < f.length
      · rcases hfk : fromI (ints f) (k : Int) with _ | ⟨y, _ | ⟨y2, r⟩⟩
        · rw [hfk] at K2
          have hq : ((0 : Int) != 1) = true := rfl
          clear hfk
          go_wp2_with (go_at_call 67; with_reducible refine K1.mono ?_; rintro e w' ⟨rfl, rfl⟩)
          refine K2.mono ?_
          rintro e w3 ⟨v3, rfl, hO3, hb3⟩
          obtain ⟨A3, c3, rfl, hO4⟩ := hO3.form
          have hB3 := bt hbw hb3
          have hB4 : Below w.heap.size w (w3.alloc (Obj.cells #[] 3)) := hB3.alloc hB3.size _
          have hO5 := OwnV.made w3 w.heap.size #[] hB3.size rfl
          go_wp2_with fail
          go_ret2
          exact OwnV.rowB false hO5 hB4
        · rw [hfk] at K2
          have HF := Lib.hid hfk
          clear hfk
          go_wp2_with (go_at_call 67; with_reducible refine K1.mono ?_; rintro e w' ⟨rfl, rfl⟩)
          refine K2.mono ?_
          rintro e w3 ⟨v3, rfl, hO3, hb3⟩
          obtain ⟨A3, c3, rfl, hI3⟩ := hO3.slice_
          obtain ⟨g3, rfl⟩ := hI3.some_ (by simp)
          have hc3 := hI3.cell (j := 0) (by simp)
          have hB3 := bt hbw hb3
          have hown3 := hown.up hb3
          have hsz := hB3.size
          simp only [gI] at hc3
          go_wp2_with (at_builtin; refine app_int w3 _ rfl _ _ rfl w.heap.size _ ys rfl hown3 rfl hln hsz ?_; intro v' w4 hown4 hb4)
          go_roundw
          case rel => exact ⟨k + 1, _, by omega, by rw [List.length_append, HY.out]; rfl, (fun j hj => by
           rcases Nat.lt_or_ge j k with h | h
           · exact HA.out j h
           · rw [show j = k by omega, HF.out]; rfl), by go_num, hown4, hB3.trans hb4⟩
          case measure => simp [intOf]; omega
        · rw [hfk] at K2
          have hlr : (y :: y2 :: r).length = r.length + 2 := rfl
          have hq : ((((r.length + 2 : Nat)) : Int) != 1) = true := by rw [bne_iff_ne]; omega
          clear hfk
          go_wp2_with (go_at_call 67; with_reducible refine K1.mono ?_; rintro e w' ⟨rfl, rfl⟩)
          refine K2.mono ?_
          rintro e w3 ⟨v3, rfl, hO3, hb3⟩
          obtain ⟨A3, c3, rfl, hO4⟩ := hO3.form
          rw [hlr] at hO4 ⊢
          generalize r.length + 2 = m at *
          have hB3 := bt hbw hb3
          have hB4 : Below w.heap.size w (w3.alloc (Obj.cells #[] 3)) := hB3.alloc hB3.size _
          have hO5 := OwnV.made w3 w.heap.size #[] hB3.size rfl
          go_wp2_with fail
          go_ret2
          exact OwnV.rowB false hO5 hB4
      · exfalso
        obtain rfl : k = f.length := by omega
        have h1 := HT1.out HA.out
        rw [HT.out] at h1
        cases h1
   · have hE1 : turI (ints f) = tkX (backN f) f.length := by unfold turI; rw [hs, toN_ints, ht, ← back_len f, tkX_all]; rfl
     have hE2 : turB (ints f) = true := by unfold turB; rw [hs, toN_ints, ht]; rfl
     rw [hE1, hE2]
     have HF := Lib.hid (fun (k : Nat) (hk : k < f.length) => fromI_one hf ht hk)
     have hq9 : Hid (decide (0 < f.length) = true) := Lib.hid (by rw [decide_eq_true_eq]; omega)
     clear hE1 hE2 ht K0
     generalize backN f = B at *
     go_enter Tryz.func195, Tryz.ntmps195
     go_wp2_with fail
     generalize w.alloc (Obj.cells #[] 3) = w0 at hB0 hO0 h0 ⊢
     go_loopw [4, 5] (fun v i wr => ∃ (k : Nat), k ≤ f.length ∧ i = .int .i64 k ∧ OwnV wr w.heap.size v (tkX B k) ∧ Below w.heap.size w wr) (fun _ i _ => f.length - (intOf i).toNat)
     case atStart => exact ⟨0, Nat.zero_le _, rfl, hO0, hB0⟩
     case round =>
      obtain ⟨k, hk, rfl, hown, hbw⟩ := hrel
      have hrd := h.up hbw
      have hln : (tkX B k).length ≤ 1000000000000 := by rw [tkX_len]; omega
      have K1 := sMapOk_b _ _ _ _ _ _ hrd hs
      have K2 := sFromOf_c _ _ _ _ (k : Int) _ hrd
      by_cases hlt : k < f.length
      · rw [HF.out k hlt] at K2
        have HT := Lib.hid (tkX_succ B k)
        generalize nx B k = y at *
        go_wp2_with (go_at_call 67; with_reducible refine K1.mono ?_; rintro e w' ⟨rfl, rfl⟩)
        refine K2.mono ?_
        rintro e w3 ⟨v3, rfl, hO3, hb3⟩
        obtain ⟨A3, c3, rfl, hI3⟩ := hO3.slice_
        obtain ⟨g3, rfl⟩ := hI3.some_ (by simp)
        have hc3 := hI3.cell (j := 0) (by simp)
        have hB3 := bt hbw hb3
        have hown3 := hown.up hb3
        have hsz := hB3.size
        simp only [gI] at hc3
        go_wp2_with (at_builtin; refine app_int w3 _ rfl _ _ rfl w.heap.size _ (tkX B k) rfl hown3 rfl hln hsz ?_; intro v' w4 hown4 hb4)
        go_roundw
        case rel => exact ⟨k + 1, by omega, by go_num, by rw [HT.out]; exact hown4, hB3.trans hb4⟩
        case measure => simp [intOf]; omega
      · obtain rfl : k = f.length := by omega
        obtain ⟨A3, c3, rfl, hI3⟩ := hown.slice_
        rw [tkX_len] at hI3 ⊢
        go_wp2_with fail
        go_ret2
        exact ⟨A3, f.length, c3, congrArg (fun b => Ending.returned (.tuple #[.slice A3 f.length c3, .bool b])) hq9.out, hI3, hbw⟩
end
section
open Go.RowKit
set_option maxRecDepth 100000 in
set_option maxHeartbeats 1600000 in
theorem sNamedOf_c (A A' : Option Addr) (n n' c c' : Nat) (xs ys : List Int) (w : World) (h : Rd w w.heap.size A n c xs) (h' : Rd w w.heap.size A' n' c' ys) :
    Calls Tryz.prog 161 #[.slice A n c, .slice A' n' c'] w (Row1 (namI xs ys) w) := by
 have K1 := sTurnedOf_c A' n' c' ys w h'
 have hl := h.len
 have hl' := h'.len
 rcases hb : turB ys with _ | _
 · have hno : namI xs ys = [] := by
    unfold turB at hb
    rcases hy : mapOk ys with _ | _
    · exact namI_no2 hy
    · rw [hy, Bool.true_and] at hb; exact namI_no4 hb
   have HW := Lib.hid hno
   rw [hb] at K1
   clear hno hb hl hl'
   generalize turI ys = zs at K1
   go_enter Tryz.func161, Tryz.ntmps161
   go_wp2_with fail
   refine K1.mono ?_
   rintro e w1 ⟨A1, n1, c1, rfl, hO1, hb1⟩
   have hB2 : Below w.heap.size w (w1.alloc (Obj.cells #[] 3)) := hb1.alloc hb1.size _
   have hO2 := OwnV.made w1 w.heap.size #[] hb1.size rfl
   go_wp2_with fail
   go_ret
   exact (show OwnV _ w.heap.size _ _ by rw [HW.out]; exact hO2).row hB2
 · have hy : mapOk ys = true := by unfold turB at hb; rcases hy : mapOk ys with _ | _ <;> rw [hy] at hb <;> simp_all
   obtain ⟨g, rfl, hg⟩ := mapOk_ex hy
   have ht : turned g = true := by unfold turB at hb; rw [hy, Bool.true_and, toN_ints] at hb; exact hb
   have hE1 : turI (ints g) = ints (backN g) := by unfold turI; rw [hy, toN_ints, ht]; rfl
   rw [hb, hE1] at K1
   clear hE1 hb
   rw [ints_len] at hl'
   by_cases hall : mapOk xs = true ∧ n = n'
   · obtain ⟨hx, rfl⟩ := hall
     obtain ⟨f, rfl, hf⟩ := mapOk_ex hx
     rw [ints_len] at hl
     have hfg : f.length = g.length := by omega
     have HW := Lib.hid (namI_ok hf hg hfg ht)
     have hbm := back_map hg ht
     have hbl := (back_len g).trans hfg.symm
     have HBM := Lib.hid hbm
     have HBL := Lib.hid hbl
     have HBB := Lib.hid (behN_map hbm hf hbl)
     have HBX := Lib.hid ((behN_len (backN g) f).trans (back_len g))
     have hqn : ((n : Int) != (n : Int)) = false := by simp
     clear hbm hbl hfg hl hl' ht hy
     generalize backN g = b at *
     go_enter Tryz.func161, Tryz.ntmps161
     go_wp2_with fail
     refine K1.mono ?_
     rintro e w1 ⟨A1, n1, c1, rfl, hO1, hb1⟩
     have hr1 := hO1.rd
     have hf1 := h.up hb1
     have hg1 := h'.up hb1
     have K2 := sMapOk_b _ _ _ _ _ _ hf1 hx
     go_wp2_with (go_at_call 67; with_reducible refine K2.mono ?_; rintro e w' ⟨rfl, rfl⟩)
     refine (sBehindOf_ok' _ _ _ _ _ _ b f _ hr1 hf1 HBM.out hf HBL.out).mono ?_
     rintro e w2 ⟨A2, n2, c2, rfl, hO2, hb2⟩
     have hr2 := hO2.rd
     have hg2 := hg1.up hb2
     have hB2 := bt hb1 hb2
     go_wp2_with fail
     refine (sBehindOf_ok' _ _ _ _ _ _ (behN b f) g _ hr2 hg2 HBB.out hg HBX.out).mono ?_
     rintro e w3 ⟨A3, n3, c3, rfl, hO3, hb3⟩
     have hO3' := hO3.wide (lo' := w.heap.size) hB2.size (Nat.le_refl _)
     have hB3 := bt hB2 hb3
     go_wp2_with fail
     go_ret
     exact ⟨_, _, _, rfl, by rw [HW.out]; exact hO3', hB3⟩
   · have hno : namI xs (ints g) = [] := by
      rcases hx : mapOk xs with _ | _
      · exact namI_no1 _ hx
      · exact namI_no3 (fun hh => hall ⟨hx, by rw [ints_len] at hh; omega⟩)
     have HW := Lib.hid hno
     have hcase : mapOk xs = false ∨ (mapOk xs = true ∧ ((n : Int) != (n' : Int)) = true) := by
      rcases hx : mapOk xs with _ | _
      · exact .inl rfl
      · exact .inr ⟨rfl, by rw [bne_iff_ne]; intro hh; exact hall ⟨hx, by omega⟩⟩
     clear hno hall hl hl' hy ht hg
     generalize ints (backN g) = zs at K1
     rcases hcase with hx | ⟨hx, hq⟩
     all_goals
      go_enter Tryz.func161, Tryz.ntmps161
      go_wp2_with fail
      refine K1.mono ?_
      rintro e w1 ⟨A1, n1, c1, rfl, hO1, hb1⟩
      have hf1 := h.up hb1
      have K2 := sMapOk_b _ _ _ _ _ _ hf1 hx
      have hB2 : Below w.heap.size w (w1.alloc (Obj.cells #[] 3)) := hb1.alloc hb1.size _
      have hO2 := OwnV.made w1 w.heap.size #[] hb1.size rfl
      go_wp2_with (go_at_call 67; with_reducible refine K2.mono ?_; rintro e w' ⟨rfl, rfl⟩)
      go_ret
      exact (show OwnV _ w.heap.size _ _ by rw [HW.out]; exact hO2).row hB2
end
section
open Go.RowKit
set_option maxRecDepth 100000 in
set_option maxHeartbeats 400000 in
theorem l6Same_c (A A' : Option Addr) (n c c' : Nat) (xs ys : List Int) (w : World) (h : Rd w w.heap.size A n c xs) (h' : Rd w w.heap.size A' n c' ys) :
    Calls Tryz.prog 120 #[.slice A n c, .slice A' n c'] w fun e w' => e = .returned (.bool (eqB xs ys)) ∧ ∃ m, w' = w.drewN m := by
 have HL := Lib.hid h.len
 have HL' := Lib.hid h'.len
 have hm := h.max
 have hc := h.cap
 have hm' := h'.max
 have hc' := h'.cap
 unfold maxLen at hm hm'
 go_enter Tryz.func120, Tryz.ntmps120
 go_wp2
 go_loopw [5] (fun i wr => ∃ k : Nat, k ≤ n ∧ i = .int .i64 k ∧ (∀ j, j < k → gI xs j = gI ys j) ∧ ∃ m, wr = w.drewN m) (fun i _ => n - (intOf i).toNat)
 case atStart => exact ⟨0, Nat.zero_le _, rfl, fun j hj => absurd hj (Nat.not_lt_zero _), 0, rfl⟩
 case round =>
  obtain ⟨k, hk, rfl, hall, m, rfl⟩ := hrel
  have HA := Lib.hid hall
  clear hall
  by_cases hlt : k < n
  · obtain ⟨b, off, rfl, hb, hcell⟩ := h.at_ hlt
    obtain ⟨b', off', rfl, hb', hcell'⟩ := h'.at_ hlt
    by_cases he : gI xs k = gI ys k
    · have hq : (gI xs k != gI ys k) = false := by simp [he]
      have HE := Lib.hid he
      clear he
      go_wp2
      go_quiet (fail)
      go_wp2
      go_roundw
      case rel => exact ⟨k + 1, by omega, by go_num, fun j hj => by
       rcases Nat.lt_or_ge j k with h' | h'
       · exact HA.out j h'
       · obtain rfl : j = k := by omega
         exact HE.out, _, rfl⟩
      case measure => simp [intOf]; omega
    · have hq : (gI xs k != gI ys k) = true := by simp [he]
      have HE := Lib.hid he
      clear he
      go_wp2
      go_quiet (fail)
      go_wp2
      go_ret
      exact ⟨boolEnd (decide_eq_false (fun e => HE.out (by rw [e]))).symm, _, World.drewN_drewN ..⟩
  · go_wp2
    go_ret
    exact ⟨boolEnd (decide_eq_true (eq_of_gI (by rw [HL.out, HL'.out]) (fun j hj => HA.out j (by have := HL.out; omega)))).symm, _, rfl⟩
end
section
open Go.RowKit
def dig (d : Nat) : ByteArray := ⟨#[UInt8.ofNat (48 + d)]⟩
theorem dig_bytes (d b : Nat) (w : World) (hd : d ≤ 9) (h : w.cell? ⟨b, 0, none⟩ = some (.int .u8 (48 + (d : Int)))) : Lib.Bytes w b 0 (dig d) := by
 intro i hi
 obtain rfl : i = 0 := by have : (dig d).size = 1 := rfl; omega
 rw [Nat.add_zero, h]
 show some (Value.int .u8 (48 + (d : Int))) = some (Value.int .u8 (((UInt8.ofNat (48 + d)).toNat : Nat) : Int))
 have : (UInt8.ofNat (48 + d)).toNat = 48 + d := by rw [UInt8.toNat_ofNat']; omega
 rw [this]; simp
set_option maxRecDepth 100000 in
set_option maxHeartbeats 800000 in
theorem l1Number_d (d : Nat) (w : World) (hd : d ≤ 9) :
    Calls Tryz.prog 51 #[.int .i64 (d : Int)] w fun e w' => e = .returned (.string (dig d)) ∧ Below w.heap.size w w' := by
 have hwr : IntKind.u8.wrap (48 + (d : Int)) = 48 + (d : Int) := (by decide : ∀ d : Fin 10, IntKind.u8.wrap (48 + ((d : Nat) : Int)) = 48 + ((d : Nat) : Int)) ⟨d, by omega⟩
 have hb : Below w.heap.size w (w.alloc (.cells #[.int .u8 (48 + (d : Int))] 5)) := (Below.refl _ _).alloc (Nat.le_refl _) _
 have kc : (convert 22 9 (.slice (some ⟨w.heap.size, 0, none⟩) 1 1)).run Tryz.prog (w.alloc (.cells #[.int .u8 (48 + (d : Int))] 5)) = .ok (.string (dig d)) (w.alloc (.cells #[.int .u8 (48 + (d : Int))] 5)) :=
  Lib.run_convert_whole (P := Tryz.prog) _ 22 5 9 Tryz.underlying22 Tryz.underlying5 Tryz.underlying9 w.heap.size 0 (dig d) (dig_bytes d _ _ hd ((World.cell?_alloc_at _ _ _ _ rfl).trans rfl)) 1
 have h0 : ¬ (0 : Int) > (d : Int) := by omega
 go_enter Tryz.func51, Tryz.ntmps51
 go_wp2_with fail
 go_ret
 exact ⟨rfl, hb⟩
end
section
open Go.RowKit
def mtX (f : List Nat) : Nat → ByteArray
 | 0 => ⟨#[]⟩
 | k + 1 => mtX f k ++ dig (nx f k)
theorem mtX_size (f : List Nat) : ∀ k, (mtX f k).size = k
 | 0 => rfl
 | k + 1 => by rw [mtX, ByteArray.size_append, mtX_size f k]; rfl
theorem mtX_succ (f : List Nat) (k : Nat) : mtX f (k + 1) = mtX f k ++ dig (nx f k) := rfl
def mtI (xs : List Int) : ByteArray := if mapOk xs then mtX (toN xs) xs.length else ⟨#[]⟩
set_option maxRecDepth 100000 in
set_option maxHeartbeats 1600000 in
theorem mapText_c (A : Option Addr) (n c : Nat) (xs : List Int) (w : World) (h : Rd w w.heap.size A n c xs) :
    Calls Tryz.prog 50 #[.slice A n c] w fun e w' => e = .returned (.string (mtI xs)) ∧ Below w.heap.size w w' := by
 have hl := h.len
 have hcp := h.cap
 have hmx := h.max
 unfold maxLen at hmx
 rcases hs : mapOk xs with _ | _
 · have hE : mtI xs = ⟨#[]⟩ := by unfold mtI; rw [hs]; rfl
   rw [hE]
   have K1 := sMapOk_b _ _ _ _ _ _ h hs
   clear hE hl
   go_enter Tryz.func50, Tryz.ntmps50
   go_wp2_with fail
   go_loopw [3, 4] (fun v i wr => v = .string ⟨#[]⟩ ∧ i = .int .i64 0 ∧ wr = w) (fun _ i _ => 0)
   case atStart => exact ⟨rfl, rfl, rfl⟩
   case round =>
    obtain ⟨rfl, rfl, rfl⟩ := hrel
    by_cases hn : 0 < n
    · go_wp2_with (go_at_call 67; with_reducible refine K1.mono ?_; rintro e w' ⟨rfl, rfl⟩)
      go_ret
      exact ⟨rfl, Below.refl _ _⟩
    · go_wp2_with fail
      go_ret
      exact ⟨rfl, Below.refl _ _⟩
 · obtain ⟨f, rfl, hf⟩ := mapOk_ex hs
   rw [ints_len] at hl
   subst hl
   have h7 := hf.le7
   have h1 := hf.pos
   have hE : mtI (ints f) = mtX f f.length := by unfold mtI; rw [hs, toN_ints, ints_len]; rfl
   rw [hE]
   clear hE
   obtain ⟨b1, off1, rfl, hbb1, hcells1⟩ := h.2.2.2 (by omega)
   have HC1 := Lib.hid hcells1
   clear hcells1
   go_enter Tryz.func50, Tryz.ntmps50
   go_wp2_with fail
   go_loopw [3, 4] (fun v i wr => ∃ (k : Nat), k ≤ f.length ∧ i = .int .i64 k ∧ v = .string (mtX f k) ∧ Below w.heap.size w wr) (fun _ i _ => f.length - (intOf i).toNat)
   case atStart => exact ⟨0, Nat.zero_le _, rfl, rfl, Below.refl _ _⟩
   case round =>
    obtain ⟨k, hk, rfl, rfl, hbw⟩ := hrel
    have hrd := h.up hbw
    have K1 := sMapOk_b _ _ _ _ _ _ hrd hs
    by_cases hlt : k < f.length
    · have hx := hf.has k hlt
      have hc1 := (hbw.cell (p := ⟨b1, off1 + k, none⟩) hbb1).trans (HC1.out k hlt)
      rw [gI_ints] at hc1
      have HT := Lib.hid (mtX_succ f k)
      have hna : ¬ (9223372036854775807 < (mtX f k).size + (dig (nx f k)).size) := by rw [mtX_size, show (dig (nx f k)).size = 1 from rfl]; omega
      have K2 := l1Number_d (nx f k) wr (by omega)
      generalize nx f k = y at *
      go_wp2_with (go_at_call 67; with_reducible refine K1.mono ?_; rintro e w' ⟨rfl, rfl⟩)
      refine K2.mono ?_
      rintro e w3 ⟨rfl, hb3⟩
      have hB3 := bt hbw hb3
      go_wp2_with fail
      go_roundw
      case rel => exact ⟨k + 1, by omega, by go_num, by rw [HT.out], hB3⟩
      case measure => simp [intOf]; omega
    · obtain rfl : k = f.length := by omega
      go_wp2_with fail
      go_ret
      exact ⟨rfl, hbw⟩
end
section
open Go.RowKit
def rdX (s : ByteArray) : Nat → List Int
 | 0 => []
 | k + 1 => rdX s k ++ [((s.get! k).toNat : Int) - 48]
theorem rdX_len (s : ByteArray) : ∀ k, (rdX s k).length = k
 | 0 => rfl
 | k + 1 => by rw [rdX, List.length_append, rdX_len s k]; rfl
theorem rdX_succ (s : ByteArray) (k : Nat) : rdX s (k + 1) = rdX s k ++ [((s.get! k).toNat : Int) - 48] := rfl
theorem byte_get {s : ByteArray} {k : Nat} (h : k < s.size) : s.get! k = s[k] := by
 show s.data[k]! = s.data[k]
 exact getElem!_pos s.data k h
def rdI (s : ByteArray) : List Int := if mapOk (rdX s s.size) then rdX s s.size else []
set_option maxRecDepth 100000 in
set_option maxHeartbeats 1600000 in
theorem sReadMap_c (s : ByteArray) (w : World) (hsz : s.size ≤ 1000000000000) :
    Calls Tryz.prog 138 #[.string s] w (RowBool w (rdI s) (mapOk (rdX s s.size))) := by
 have hB0 : Below w.heap.size w (w.alloc (Obj.cells #[] 3)) := (Below.refl _ _).alloc (Nat.le_refl _) _
 have hO0 := OwnV.made w w.heap.size #[] (Nat.le_refl _) rfl
 go_enter Tryz.func138, Tryz.ntmps138
 go_wp2_with fail
 generalize w.alloc (Obj.cells #[] 3) = w0 at hB0 hO0 ⊢
 go_loopw [4, 5] (fun v i wr => ∃ (k : Nat), k ≤ s.size ∧ i = .int .i64 k ∧ OwnV wr w.heap.size v (rdX s k) ∧ Below w.heap.size w wr) (fun _ i _ => s.size - (intOf i).toNat)
 case atStart => exact ⟨0, Nat.zero_le _, rfl, hO0, hB0⟩
 case round =>
  obtain ⟨k, hk, rfl, hown, hbw⟩ := hrel
  have hs := hbw.size
  have hln : (rdX s k).length ≤ 1000000000000 := by rw [rdX_len]; omega
  by_cases hlt : k < s.size
  · have HT := Lib.hid (rdX_succ s k)
    have hb : (s.get! k).toNat < 256 := (s.get! k).toNat_lt
    have hw0 : wrap64 ((s.get! k).toNat : Int) = ((s.get! k).toNat : Int) := by simp [wrap64]; omega
    have hw1 : wrap64 (((s.get! k).toNat : Int) - 48) = ((s.get! k).toNat : Int) - 48 := by simp [wrap64]; omega
    have hidx : (Instr.index 9 (.string s) (.int .i64 (k : Int))).run Tryz.prog wr = .ok (.int .u8 ((s.get! k).toNat : Int)) wr := by
     rw [run_index_string _ _ _ _ _ Tryz.underlying9]
     rw [dif_pos ⟨by omega, by omega⟩]
     rw [byte_get hlt]
     rfl
    generalize ((s.get! k).toNat : Int) = y at *
    go_wp2_with (at_builtin; refine app_int wr _ rfl _ _ rfl w.heap.size _ (rdX s k) rfl hown rfl hln hs ?_; intro v' w3 hown3 hb3)
    go_roundw
    case rel => exact ⟨k + 1, by omega, by go_num, by rw [HT.out]; exact hown3, hbw.trans hb3⟩
    case measure => simp [intOf]; omega
  · obtain rfl : k = s.size := by omega
    obtain ⟨A3, c3, rfl, hI3⟩ := hown.slice_
    rw [rdX_len] at hI3 ⊢
    have hr3 := hI3.rd
    rcases (show mapOk (rdX s s.size) = false ∨ mapOk (rdX s s.size) = true by cases mapOk (rdX s s.size) <;> simp) with hm | hm
    · have hE : rdI s = [] := by unfold rdI; rw [hm]; rfl
      have K1 := sMapOk_b _ _ _ _ _ _ hr3 hm
      have HE := Lib.hid hE
      have HM := Lib.hid hm
      clear hE hm
      have hB4 : Below w.heap.size w (wr.alloc (Obj.cells #[] 3)) := hbw.alloc hbw.size _
      have hO4 := OwnV.made wr w.heap.size #[] hbw.size rfl
      go_wp2_with (go_at_call 67; with_reducible refine K1.mono ?_; rintro e w' ⟨rfl, rfl⟩)
      go_ret2
      rw [HE.out, HM.out]
      exact OwnV.rowB false hO4 hB4
    · have hE : rdI s = rdX s s.size := by unfold rdI; rw [hm]; rfl
      have K1 := sMapOk_b _ _ _ _ _ _ hr3 hm
      have HE := Lib.hid hE
      have HM := Lib.hid hm
      clear hE hm
      go_wp2_with (go_at_call 67; with_reducible refine K1.mono ?_; rintro e w' ⟨rfl, rfl⟩)
      go_ret2
      rw [HE.out, HM.out]
      exact ⟨_, _, _, rfl, hI3, hbw⟩
end
section
open Go.RowKit
set_option maxRecDepth 100000 in
set_option maxHeartbeats 1600000 in
theorem sPowerOf_c (A : Option Addr) (n c : Nat) (xs : List Int) (t : Int) (w : World) (h : Rd w w.heap.size A n c xs) :
    Calls Tryz.prog 160 #[.slice A n c, .int .i64 t] w (Row1 (powI xs t) w) := by
 have hB0 : Below w.heap.size w (w.alloc (Obj.cells #[] 3)) := (Below.refl _ _).alloc (Nat.le_refl _) _
 have hO0 := OwnV.made w w.heap.size #[] (Nat.le_refl _) rfl
 rcases (show mapOk xs = false ∨ mapOk xs = true by cases mapOk xs <;> simp) with hm | hm
 · have HE := Lib.hid (powI_no1 t hm)
   have K1 := sMapOk_b _ _ _ _ _ _ h hm
   clear hm
   go_enter Tryz.func160, Tryz.ntmps160
   go_wp2_with (go_at_call 67; with_reducible refine K1.mono ?_; rintro e w' ⟨rfl, rfl⟩)
   go_ret
   exact (show OwnV _ w.heap.size _ _ by rw [HE.out]; exact hO0).row hB0
 · rcases (show inB t 0 1000000 = false ∨ inB t 0 1000000 = true by cases inB t 0 1000000 <;> simp) with hi | hi
   · have HE := Lib.hid (powI_no2 (xs := xs) hi)
     have K1 := sMapOk_b _ _ _ _ _ _ h hm
     have K2 := l1In_c t 0 1000000 w
     rw [hi] at K2
     clear hm hi
     go_enter Tryz.func160, Tryz.ntmps160
     go_wp2_with (first
      | (go_at_call 67; with_reducible refine K1.mono ?_; rintro e w' ⟨rfl, rfl⟩)
      | (go_at_call 129; with_reducible refine K2.mono ?_; rintro e w' ⟨rfl, rfl⟩))
     go_ret
     exact (show OwnV _ w.heap.size _ _ by rw [HE.out]; exact hO0).row hB0
   · obtain ⟨f, rfl, hf⟩ := mapOk_ex hm
     obtain rfl : n = f.length := by rw [← h.len, ints_len]
     obtain ⟨h2, h3⟩ := inB_iff.1 hi
     obtain ⟨k, rfl⟩ := Int.eq_ofNat_of_zero_le h2
     have hk : k ≤ 1000000 := by omega
     exact (show powI (ints f) (k : Int) = ints (powN f k) from powI_ok hf hk) ▸ sPowerOf_ok A c f k w hf hk h
end
section
open Go.RowKit
set_option maxRecDepth 100000 in
set_option maxHeartbeats 6400000 in
theorem names_c (g lo p n : Nat) (w : World) (h : Rdr w lo g p) (hp : p ≤ 1000000) (hn : n ≤ 7) :
    Calls Tryz.prog 137 #[.pointer (some ⟨g, 0, none⟩), .int .i64 (n : Int)] w (MapDrawn w lo g p) := by
 have hgl := h.lt
 have hlog := h.lo
 have hc2 := (Chg.refl g (g + 1) w).allocNew (Obj.cells #[] 3)
 have hr2 := h.up ((Below.refl w.heap.size w).alloc (Nat.le_refl _) (Obj.cells #[] 3))
 have hO2 := OwnV.made w w.heap.size #[] (Nat.le_refl _) rfl
 go_enter Tryz.func137, Tryz.ntmps137
 go_wp2_with fail
 generalize w.alloc (Obj.cells #[] 3) = w2 at hO2 hc2 hr2 ⊢
 go_loopw [5, 6] (fun o i wr => ∃ (k : Nat) (xs : List Int), k ≤ n ∧ i = .int .i64 k ∧ OwnV wr w.heap.size o xs ∧ xs.length = k ∧ (∀ y ∈ xs, 0 ≤ y ∧ y ≤ 7) ∧ Rdr wr lo g (p + k) ∧ Chg g (g + 1) w wr) (fun o i _ => n - (intOf i).toNat)
 case atStart => exact ⟨0, [], Nat.zero_le _, rfl, hO2, rfl, by simp, hr2, hc2⟩
 case round =>
  obtain ⟨k, xs, hk, rfl, hO, hl, hb, hr, hc⟩ := hrel
  clear hO2 hc2 hr2
  by_cases hlt : k < n
  · have HBd := Lib.hid hb
    have HO := Lib.hid hO
    have HC := Lib.hid hc
    clear hb hO hc
    go_wp2_with fail
    refine (pick_c g lo (p + k) _ _ hr (by omega) (by omega)).mono ?_
    rintro e w3 ⟨x, rfl, hx, hr3, hc3⟩
    have hx' : x ≤ k := by have := hx (by omega); omega
    have hO3 := HO.out.chg hc3 (by omega)
    have hC3 := HC.out.chg_ hc3 (.inr ⟨Nat.le_refl _, Nat.le_refl _⟩)
    have hs3 := hC3.size
    have HR3 := Lib.hid hr3
    have HC3 := Lib.hid hC3
    have hlen : xs.length ≤ 1000000000000 := by omega
    clear hr3 hc3 hr hC3 hx
    go_wp2_with (at_builtin; refine app_int w3 _ rfl _ _ rfl w.heap.size _ xs rfl hO3 rfl hlen hs3 ?_; intro v' w' hown' hb'; obtain ⟨A4, c4, rfl, hI4⟩ := hown'.slice_s; rw [hl] at hI4 ⊢; obtain ⟨g4, rfl⟩ := hI4.some_ (by omega))
    have hC4 := HC3.out.then_ hb'
    have hR4 := HR3.out.below hb' hgl
    have hB4 : ∀ y ∈ xs ++ [(k : Int)], 0 ≤ y ∧ y ≤ 7 := by
     intro z hz
     rw [List.mem_append, List.mem_singleton] at hz
     rcases hz with hz | rfl
     · exact HBd.out z hz
     · omega
    have hI4' := hI4
    clear hI4 hown' hO3 hs3
    go_loopw [8] (fun i wr => ∃ (j : Nat) (ys : List Int), x ≤ j ∧ j ≤ k ∧ i = .int .i64 j ∧ OwnIn wr w.heap.size (g4 + 1) (some ⟨g4, 0, none⟩) (k + 1) c4 ys ∧ (∀ y ∈ ys, 0 ≤ y ∧ y ≤ 7) ∧ Rdr wr lo g (p + k + 1) ∧ Chg g (g + 1) w wr) (fun i _ => (intOf i).toNat)
    case atStart => exact ⟨k, _, hx', Nat.le_refl _, rfl, ⟨hI4'.1, fun q hq => by cases hq; exact Nat.lt_succ_self _⟩, hB4, hR4, hC4⟩
    case round =>
     obtain ⟨j, ys, hxj, hjk, rfl, hI, hB, hR, hC⟩ := hrel
     clear hI4' hB4 hR4 hC4
     by_cases hj : x < j
     · have hold := hI.cell (j := j) (by omega)
       have hold2 := hI.cell (j := j - 1) (by omega)
       have hfz := hI.frozen j
       have hj1 : ((j : Int) - 1) = ((j - 1 : Nat) : Int) := by omega
       have HST := Lib.hid (hI.store j (gI ys (j - 1)))
       have hyb : (gI ys (j - 1)) = gI ys (j - 1) := rfl
       have HBn := Lib.hid (forall_set (k := j) hB (forall_gI hB (k := j - 1) (by rw [hI.len]; omega)))
       have HR := Lib.hid hR
       have HC := Lib.hid hC
       clear hI hB hR hC
       generalize gI ys (j - 1) = y at *
       go_wp2_with fail
       go_roundw
       case rel =>
        have hbl := HST.out.2.below' (Nat.le_refl _) (by have := HC.out.size; omega)
        exact ⟨j - 1, _, by omega, by omega, by go_num, HST.out.1, HBn.out, HR.out.below hbl hgl, HC.out.then_ hbl⟩
       case measure => simp [intOf]; omega
     · have hold := hI.cell (j := x) (by omega)
       have hfz := hI.frozen x
       have HST := Lib.hid (hI.store x (k : Int))
       have HBn := Lib.hid (forall_set (k := x) hB (show (0 : Int) ≤ (k : Int) ∧ (k : Int) ≤ 7 by omega))
       have HLn : Hid (ys.length = k + 1) := Lib.hid hI.len
       have HR := Lib.hid hR
       have HC := Lib.hid hC
       clear hI hB hR hC
       go_wp2_with fail
       go_roundw
       case rel =>
        have hbl := HST.out.2.below' (Nat.le_refl _) (by have := HC.out.size; omega)
        refine ⟨k + 1, ys.set x (k : Int), by omega, by go_num, ?_, by rw [List.length_set, HLn.out], HBn.out, HR.out.below hbl hgl, HC.out.then_ hbl⟩
        have := HST.out.1.1
        unfold OwnV
        rw [List.length_set, HLn.out]
        exact this.row
       case measure => simp [intOf]; omega
  · obtain rfl : k = n := by omega
    obtain ⟨A, c, rfl, hown⟩ := hO.slice_
    rw [hl] at hown ⊢
    go_wp2_with fail
    go_ret
    exact ⟨A, k, c, xs, rfl, hown, ⟨by omega, fun y hy => by have := hb y hy; omega⟩, hr.more (by omega), hc⟩
end
end Go.Proofs.YtoinlkdmfclnbaaGreatDoor
