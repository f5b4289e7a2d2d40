/- Bundle VE. -/
import Derived.Maps.OwnOps
import Derived.Maps.OwnSet
import Derived.RangeFuncLeaves
import Derived.Test.YtoinlkdmfclnbaaGreatDoorYP
import Derived.Test.YtoinlkdmfclnbaaGreatDoorYQ
import Derived.Test.YtoinlkdmfclnbaaGreatDoorYSh
import Derived.Test.YtoinlkdmfclnbaaGreatDoorYV1
import Derived.Test.YtoinlkdmfclnbaaGreatDoorYV5
import Derived.Test.YtoinlkdmfclnbaaGreatDoorYV8
import Derived.Test.YtoinlkdmfclnbaaGreatDoorYV9
namespace Go.Proofs.YtoinlkdmfclnbaaGreatDoor
set_option linter.unusedVariables false
section
def imgN (f : List Nat) : List Nat := parts (fun k => f.contains k) f.length
end
section
open Go.RowKit
end
section
open Go.RowKit Go.Shelf
attribute [local go_sem] Oper.semAt_some
set_option maxHeartbeats 400000 in
theorem indexM_c (A : Option Addr) (n c : Nat) (xs : List Int) (v : Int) (w : World) (h : Rd w w.heap.size A n c xs) :
    Calls Tryz.prog 239 #[.slice A n c, .int .i64 v] w (Idx xs n v w) := by
 have hm := h.max
 have hc := h.cap
 unfold maxLen at hm
 go_enter Tryz.func239, Tryz.ntmps239
 go_wp2_with fail
 go_loopw [8] (fun i wr => ∃ k : Nat, k ≤ n ∧ i = .int .i64 k ∧ (∀ j, j < k → gI xs j ≠ v) ∧ wr = w) (fun i _ => n - (intOf i).toNat)
 case atStart => exact ⟨0, Nat.zero_le _, rfl, fun j hj => absurd hj (Nat.not_lt_zero _), rfl⟩
 case round =>
  obtain ⟨k, hk, rfl, hall, rfl⟩ := hrel
  have HA := Lib.hid hall
  clear hall
  by_cases hlt : k < n
  · obtain ⟨b, off, rfl, hb, hcell⟩ := h.at_ hlt
    by_cases he : gI xs k = v
    · have hq : (v == gI xs k) = true := by rw [he]; simp
      have HE := Lib.hid he
      clear he
      go_wp2_with fail
      go_ret
      exact ⟨rfl, .inr ⟨k, hlt, rfl, HE.out, HA.out⟩⟩
    · have hq : (v == gI xs k) = false := by rw [beq_eq_false_iff_ne]; exact fun e => he e.symm
      have HE := Lib.hid he
      clear he
      go_wp2_with fail
      go_roundw
      case rel => exact ⟨k + 1, by omega, by go_num, fun j hj => by
       rcases Nat.lt_or_ge j k with h' | h'
       · exact HA.out j h'
       · obtain rfl : j = k := by omega
         exact HE.out, trivial⟩
      case measure => simp [intOf]; omega
  · obtain rfl : k = n := by omega
    go_wp2_with fail
    go_ret
    exact ⟨rfl, .inl ⟨rfl, HA.out⟩⟩
set_option maxHeartbeats 400000 in
theorem contains_c (A : Option Addr) (n c : Nat) (xs : List Int) (v : Int) (w : World) (h : Rd w w.heap.size A n c xs) :
    Calls Tryz.prog 216 #[.slice A n c, .int .i64 v] w fun e w' => e = .returned (.bool (hasI xs v)) ∧ w = w' := by
 have hl := h.len
 go_enter Tryz.func216, Tryz.ntmps216
 go_wp2_with fail
 refine (indexM_c _ _ _ _ _ _ h).mono ?_
 rintro e w' ⟨rfl, ⟨rfl, hall⟩ | ⟨j, hj, rfl, he, _⟩⟩
 · have HH : Hid (hasI xs v = false) := hasI_no (fun j hj => hall j (by omega))
   clear hall
   go_wp2_with fail
   go_ret
   exact ⟨boolEnd HH.out.symm, rfl⟩
 · have HH : Hid (hasI xs v = true) := hasI_yes (j := j) (by omega) he
   clear he
   go_wp2_with fail
   go_ret
   exact ⟨boolEnd HH.out.symm, rfl⟩
def imgX (xs : List Int) : Nat → List Int
 | 0 => []
 | k + 1 => if hasI xs (k : Int) then imgX xs k ++ [(k : Int)] else imgX xs k
theorem imgX_len (xs : List Int) : ∀ k, (imgX xs k).length ≤ k
 | 0 => Nat.le_refl _
 | k + 1 => by
  have := imgX_len xs k
  unfold imgX; split
  · rw [List.length_append]; simp; omega
  · omega
theorem imgX_t {xs : List Int} {k : Nat} (h : hasI xs (k : Int) = true) : imgX xs (k + 1) = imgX xs k ++ [(k : Int)] := by rw [imgX, if_pos h]
theorem imgX_f {xs : List Int} {k : Nat} (h : hasI xs (k : Int) = false) : imgX xs (k + 1) = imgX xs k := by rw [imgX, if_neg (by rw [h]; simp)]
theorem imgX_parts (f : List Nat) : ∀ k, imgX (ints f) k = ints (parts (fun j => f.contains j) k)
 | 0 => rfl
 | k + 1 => by
  have ih := imgX_parts f k
  have hc := hasI_ints f k
  rcases h : f.contains k with _ | _
  · rw [imgX_f (by rw [hc, h]), parts_f (p := fun j => f.contains j) h, ih]
  · rw [imgX_t (by rw [hc, h]), parts_t (p := fun j => f.contains j) h, ih, ints_append, ints_single]
set_option maxRecDepth 100000 in
set_option maxHeartbeats 2000000 in
theorem image1_in (l Bm n₀ : Nat) (A : Option Addr) (n c : Nat) (xs : List Int) (hn : n ≤ 100) (J Jx : List Int → World → Prop) (W : World) (hr : Rd W n₀ A n c xs)
    (hY : ∀ pre x W, J pre W → pre.length < 100 → YieldAt Fence.wide 2 Tryz.prog l (encI x) W fun e W' =>
     (e = .returned (.bool true) ∧ J (pre ++ [x]) W' ∧ Below n₀ W W') ∨ (e = .returned (.bool false) ∧ Jx (pre ++ [x]) W'))
    (hm : W.cell? ⟨Bm, 0, none⟩ = some (.slice A n c)) (hBm : Bm < n₀) (hn₀ : n₀ ≤ W.heap.size) (h0 : J [] W) :
    CallsIn Fence.wide 3 Tryz.prog 215 #[.func (.yield l) #[] #[], .pointer (some ⟨Bm, 0, none⟩)] W fun e W' => (∃ v, e = .returned v) ∧
     ((∃ ys, ys = imgX xs n ∧ J ys W') ∨ (∃ pre, True ∧ Jx pre W')) := by
 have hcp := hr.cap
 have hmx := hr.max
 unfold maxLen at hmx
 refine callsIn_of_wp Tryz.func215 rfl trivial ?_ rfl
 simp only [Tryz.ntmps215, List.size_toArray, List.length_cons, List.length_nil, Nat.reduceAdd, Nat.reduceSub, Array.replicate_succ, Array.replicate_zero, List.push_toArray, List.append_toArray, List.nil_append, List.cons_append]
 gi_wp2
 gi_loopw [6] (fun i wr => ∃ k : Nat, k ≤ n ∧ i = .int .i64 k ∧ J (imgX xs k) wr ∧ Below n₀ W wr) (fun i _ => n - (intOf i).toNat)
 case atStart => exact ⟨0, Nat.zero_le _, rfl, h0, Below.refl _ _⟩
 case round =>
  obtain ⟨k, hk, rfl, hJ, hb⟩ := hrel
  have hm2 := (hb.cell (p := ⟨Bm, 0, none⟩) hBm).trans hm
  clear hm
  by_cases hlt : k < n
  · have hrd : Rd wr wr.heap.size A n c xs := (hr.below hb).more (Nat.le_trans hn₀ hb.size)
    have hfl := imgX_len xs k
    rcases he : hasI xs (k : Int) with _ | _
    · have HT := Lib.hid (imgX_f he)
      gi_wp2_with (refine ⟨trivial, ?_⟩; gi_at_call 216; refine (callsIn_wide.2 (contains_c _ _ _ _ _ _ hrd)).mono ?_; rintro e w' ⟨rfl, rfl⟩)
      refine ⟨fun _ h => (by cases h), ?_⟩
      gi_wp2
      go_roundw
      case rel => exact ⟨k + 1, by omega, by simp, by rw [HT.out]; exact hJ, hb⟩
      case measure => simp [intOf]; omega
    · have HT := Lib.hid (imgX_t he)
      obtain ⟨fn, tmps, assign, body, hy, hR⟩ := hY _ (k : Int) wr hJ (by omega)
      dsimp only [encI] at hy
      gi_wp2_with (refine ⟨trivial, ?_⟩; gi_at_call 216; refine (callsIn_wide.2 (contains_c _ _ _ _ _ _ hrd)).mono ?_; rintro e w' ⟨rfl, rfl⟩)
      refine hR.mono ?_
      rintro e W3 (⟨rfl, hJ3, hk3⟩ | ⟨rfl, hJx3⟩)
      · gi_wp2
        go_roundw
        case rel => exact ⟨k + 1, by omega, by simp, by rw [HT.out]; exact hJ3, hb.trans hk3⟩
        case measure => simp [intOf]; omega
      · gi_wp2
        refine bodyPost_ret (results_none rfl _ _ _) rfl ?_
        exact ⟨⟨_, rfl⟩, .inr ⟨_, trivial, hJx3⟩⟩
  · obtain rfl : k = n := by omega
    gi_wp2
    go_end0
    exact ⟨⟨_, rfl⟩, .inl ⟨_, rfl, hJ⟩⟩
set_option maxHeartbeats 800000 in
theorem imageSeq_c (A : Option Addr) (n c : Nat) (w : World) :
    Calls Tryz.prog 184 #[.slice A n c] w fun e w' => e = .returned (.func (.func 215) #[] #[.pointer (some ⟨w.heap.size, 0, none⟩)]) ∧ w' = w.alloc (.cells #[.slice A n c] 124) := by
 go_enter Tryz.func184, Tryz.ntmps184
 go_wp2_with fail
 go_ret
 exact ⟨rfl, rfl⟩
theorem image_seq (A : Option Addr) (n c : Nat) (xs : List Int) (w : World) (h : Rd w w.heap.size A n c xs) (hn : n ≤ 100) :
    Seq 215 #[.pointer (some ⟨w.heap.size, 0, none⟩)] (fun ys => ys = imgX xs n) (w.alloc (.cells #[.slice A n c] 124)) := by
 have bM := Boxed.new w 124 (.slice A n c)
 have hb : Below w.heap.size w (w.alloc (.cells #[.slice A n c] 124)) := (Below.refl _ w).alloc (Nat.le_refl _) _
 have hr := h.up hb
 have hlt := bM.lt
 intro l J Jx W hW _ _ hY h0
 exact image1_in l w.heap.size _ A n c xs hn J Jx W (hr.below hW) hY ((hW.cell (p := ⟨w.heap.size, 0, none⟩) hlt).trans bM.cell) hlt hW.size h0
def imageI (xs : List Int) : List Int := if mapOk xs then imgX xs xs.length else []
theorem imageI_no {xs : List Int} (h : mapOk xs = false) : imageI xs = [] := by unfold imageI; rw [h]; simp
theorem imageI_ok {f : List Nat} (hf : MapN f) : imageI (ints f) = ints (imgN f) := by unfold imageI; rw [if_pos (mapOk_ints hf), imgX_parts, ints_len]; rfl
set_option maxHeartbeats 800000 in
theorem imageOf_c (A : Option Addr) (n c : Nat) (xs : List Int) (w : World) (h : Rd w w.heap.size A n c xs) :
    Calls Tryz.prog 151 #[.slice A n c] w (Row1 (imageI xs) w) := by
 have hl := h.len
 rcases hm : mapOk xs with _ | _
 · have HE := Lib.hid (imageI_no hm)
   go_enter Tryz.func151, Tryz.ntmps151
   go_wp2_with (go_at_call 68; refine (mapOk_c _ _ _ _ _ h).mono ?_; rintro e w' ⟨rfl, rfl⟩)
   go_ret
   exact ⟨_, _, _, rfl, by rw [HE.out]; exact OwnIn.nil_ _ _ _, Below.refl _ _⟩
 · have hn7 : n ≤ 7 := by obtain ⟨f, rfl, hf⟩ := mapOk_ex hm; have := hf.le7; rw [ints_len] at hl; omega
   have HE : Hid (imageI xs = imgX xs n) := by unfold Hid imageI; rw [if_pos hm, hl]
   have HS := Lib.hid (image_seq A n c xs w h (by omega))
   have hb : Below w.heap.size w (w.alloc (.cells #[.slice A n c] 124)) := (Below.refl _ w).alloc (Nat.le_refl _) _
   go_enter Tryz.func151, Tryz.ntmps151
   go_wp2_with (go_at_call 68; refine (mapOk_c _ _ _ _ _ h).mono ?_; rintro e w' ⟨rfl, rfl⟩)
   refine (imageSeq_c A n c w).mono ?_
   rintro e w1 ⟨rfl, hw1⟩
   rw [← hw1] at HS hb
   clear hw1
   go_wp2_with fail
   refine (collect_c _ _ _ w1 HS.out (enters_of Tryz.func215 (by kernel_rfl) rfl)).mono ?_
   rintro e w2 ⟨v, ys, hy, rfl, hO, hb2⟩
   have hO2 : OwnV w2 w.heap.size v (imageI xs) := by rw [HE.out, ← hy]; exact hO.more hb.size
   obtain ⟨A2, c2, rfl, hI⟩ := hO2.slice_
   have hbb := bt hb hb2
   clear hO hy hO2
   go_wp2_with fail
   go_ret
   exact ⟨A2, _, c2, rfl, hI, hbb⟩
end
section
open Go.RowKit Go.Maps Go.Sort Go.Shelf
theorem sortsA (m : Nat) : AnyZI.SortsIn Tryz.prog sortedA_ren Fence.wide m :=
 ⟨fun blk off cap ss W hH hblk hsz => callsIn_wide.2 (AnyM.slices_Sort_int sortA blk off cap ss W hH hblk hsz),
  fun p cap W => callsIn_wide.2 (AnyM.slices_Sort_int_none sortA p cap W)⟩
def RS (v : Value) : Option (DataW Unit × List MemPlace) := match v with | .agg _ => some (.lit (.bool true), []) | _ => none
def Srt (D : DataW Unit) (w : World) (e : Ending) (w' : World) : Prop := ∃ (v : Value) (ss : List Int), e = .returned v ∧ ss.Perm (intKeys D) ∧ OwnV w' w.heap.size v (ss.mergeSort (fun x y => decide (x ≤ y))) ∧ Below w.heap.size w w'
theorem keys_c (mb : Option Nat) (W : World) : Calls Tryz.prog 189 #[.map mb] W fun e w' => e = .returned (.func (.func 220) #[] #[.pointer (some ⟨W.heap.size, 0, none⟩)]) ∧ w' = W.alloc (.cells #[.map mb] 147) :=
 callsIn_wide.1 (AnyZI.keys_in keysA Fence.wide 5 trivial rfl mb W)
set_option maxHeartbeats 1000000 in
theorem sorted_c (b nn : Nat) (D0 : DataW Unit) (w : World) (hown : w.ownsMap Tryz.prog 3 RS b nn D0) (hmax : Maps.size D0 ≤ 1000) :
    Calls Tryz.prog 188 #[.func (.func 220) #[] #[.pointer (some ⟨w.heap.size, 0, none⟩)]] (w.alloc (.cells #[.map (some b)] 147)) (Srt D0 (w.alloc (.cells #[.map (some b)] 147))) := by
 have hbl := hown.lt
 have hseq : SeqGives Fence.wide 2 Tryz.prog 220 #[.pointer (some ⟨w.heap.size, 0, none⟩)] encZ (fun ss => ss.Perm (intKeys D0)) (Maps.size D0) (w.alloc (.cells #[.map (some b)] 147)) :=
  AnyZI.keys_gives (ρ := keysA_ren) { keysA with } Fence.wide _ trivial rfl (by omega) w.heap.size b nn D0 _ (by simp) (by simp) (by
   obtain ⟨es, clock, hb, Ft, hs, hD⟩ := hown
   exact ⟨es, clock, (Below.heap_alloc _ _ b hbl).trans hb, Ft, hs, hD⟩)
 have cS := AnyZI.sorted_in sortedA Fence.wide 5 trivial trivial trivial trivial rfl (by omega) (sortsA _) (enters_of Tryz.func219 (by kernel_rfl) rfl) 220 #[.pointer (some ⟨w.heap.size, 0, none⟩)] trivial (enters_of Tryz.func220 (by kernel_rfl) rfl) _ _ (by unfold maxLen; omega) (by omega) _ hseq
 change CallsIn _ _ Tryz.prog 188 _ _ _ at cS
 refine (callsIn_wide.1 cS).mono ?_
 rintro e w' ⟨v, ss, rfl, hS, hrow, hnil, hb⟩
 refine ⟨v, ss, rfl, hS, ?_, hb⟩
 unfold OwnV
 rw [List.length_mergeSort]
 exact hrow
theorem sort_asc {L : List Int} (h : Asc L) : L.mergeSort (fun x y => decide (x ≤ y)) = L := by
 refine List.mergeSort_of_pairwise ?_
 have hl : ∀ n i, i + n < L.length → gI L i ≤ gI L (i + n) := fun n => by
  induction n with
  | zero => intro i _; exact Int.le_refl _
  | succ n ih => intro i hi; have h1 := ih i (by omega); have h2 := h (i + n) (by omega); rw [show i + (n + 1) = i + n + 1 by omega]; omega
 rw [List.pairwise_iff_getElem]
 intro i j hi hj hij
 have := hl (j - i) i (by omega)
 rw [show i + (j - i) = j by omega, gI_get hi, gI_get hj] at this
 simpa using this
def putAll (l : List Nat) : DataW Unit := (l.map (fun x : Nat => Lit.int .i64 (x : Int))).foldl (fun m x => m.put x (.lit (.bool true))) (.map [])
theorem putAll_snoc (l : List Nat) (x : Nat) : putAll (l ++ [x]) = (putAll l).put (.int .i64 (x : Int)) (.lit (.bool true)) := by simp [putAll]
theorem putAll_has (l : List Nat) (x : Int) : has (putAll l) (.int .i64 x) = true ↔ x ∈ ints l := by
 unfold putAll
 rw [has_fold _ _ _ _ ⟨[], rfl⟩ (fun y hy => by obtain ⟨z, _, rfl⟩ := List.mem_map.1 hy; exact trivial)]
 simp only [has, List.any_nil, Bool.false_or, List.any_eq_true, List.mem_map, ints]
 constructor
 · rintro ⟨y, ⟨z, hz, rfl⟩, he⟩
   exact ⟨z, hz, by simpa [Lit.sameKey] using he⟩
 · rintro ⟨z, hz, rfl⟩
   exact ⟨_, ⟨z, hz, rfl⟩, by simp [Lit.sameKey]⟩
theorem asc_nodup {L : List Int} (h : Asc L) : L.Nodup := by
 have hl : ∀ n i, i + n + 1 < L.length → gI L i < gI L (i + n + 1) := fun n => by
  induction n with
  | zero => intro i hi; exact h i hi
  | succ n ih => intro i hi; have h1 := ih i (by omega); have h2 := h (i + n + 1) (by omega); rw [show i + (n + 1) + 1 = i + n + 1 + 1 by omega]; omega
 unfold List.Nodup
 rw [List.pairwise_iff_getElem]
 intro i j hi hj hij e
 have := hl (j - i - 1) i (by omega)
 rw [show i + (j - i - 1) + 1 = j by omega, gI_get hi, gI_get hj] at this
 omega
theorem putAll_sorted {l : List Nat} {w : World} {b n : Nat} (h : Asc (ints l)) (hown : w.ownsMap Tryz.prog 3 RS b n (putAll l)) {ss : List Int} (hs : ss.Perm (intKeys (putAll l))) :
    ss.mergeSort (fun x y => decide (x ≤ y)) = ints l := by
 have hc : CollectedI (putAll l) (fun _ => false) (ints l) := ⟨asc_nodup h, fun x => by rw [putAll_has]; simp⟩
 have hp := hc.perm hown (Maps.int_keyed Tryz.underlying3) Tryz.underlying3 (fun _ => rfl)
 have := mergeSort_of_perm_i (hs.trans hp.symm)
 exact this.trans (sort_asc h)
theorem wf_small {k : Nat} (hk : k ≤ 1000000) : (Lit.int .i64 (k : Int)).wf = true := by
 have h1 : IntKind.i64.min = -9223372036854775808 := by decide
 have h2 : IntKind.i64.max = 9223372036854775807 := by decide
 simp only [Lit.wf, Bool.and_eq_true, decide_eq_true_eq]
 omega
def clsN (f : List Nat) : List Nat := parts (closedN f) (2 ^ f.length)
def closedSetsI (xs : List Int) : List Int := if mapOk xs then ints (clsN (toN xs)) else []
theorem closedSetsI_ok {f : List Nat} (hf : MapN f) : closedSetsI (ints f) = ints (clsN f) := by unfold closedSetsI; rw [if_pos (mapOk_ints hf), toN_ints]
theorem closedSetsI_no {xs : List Int} (h : mapOk xs = false) : closedSetsI xs = [] := by unfold closedSetsI; rw [h]; simp
set_option maxRecDepth 100000 in
set_option maxHeartbeats 1600000 in
theorem closedSets_c (A : Option Addr) (n c : Nat) (xs : List Int) (w : World) (h : Rd w w.heap.size A n c xs) :
    Calls Tryz.prog 153 #[.slice A n c] w fun e w' => ∃ v, e = .returned v ∧ OwnV w' w.heap.size v (closedSetsI xs) ∧ Below w.heap.size w w' := by
 rcases hm : mapOk xs with _ | _
 · have HE := Lib.hid (closedSetsI_no hm)
   go_enter Tryz.func153, Tryz.ntmps153
   go_wp2_with (go_at_call 68; refine (mapOk_c _ _ _ _ _ h).mono ?_; rintro e w' ⟨rfl, rfl⟩)
   go_ret
   exact ⟨_, rfl, by rw [HE.out]; exact OwnV.nil_ _ _, Below.refl _ _⟩
 · obtain ⟨f, rfl, hf⟩ := mapOk_ex hm
   obtain rfl : n = f.length := by rw [← h.len, ints_len]
   have HE := Lib.hid (closedSetsI_ok hf)
   have h7 := hf.le7
   have h2 := two_le h7
   have hmm := @run_makeMap Tryz.prog
   have hw1 : IntKind.i64.wrap (((2 ^ f.length : Nat) : Int) - 1 + 1) = ((2 ^ f.length : Nat) : Int) := by rw [show ((2 ^ f.length : Nat) : Int) - 1 + 1 = ((2 ^ f.length : Nat) : Int) by omega]; exact IntWalk.i64_in _ (by omega)
   have hm0 := World.ownsMap_made w Tryz.prog 3 RS
   have hb0 : Below w.heap.size w (w.alloc (.map #[] 0)) := (Below.refl _ _).alloc (Nat.le_refl _) _
   obtain ⟨D, hD⟩ : ∃ D, D = 2 ^ f.length := ⟨_, rfl⟩
   go_enter Tryz.func153, Tryz.ntmps153
   go_wp2_with (go_at_call 68; refine (mapOk_c _ _ _ _ _ h).mono ?_; rintro e w' ⟨rfl, rfl⟩)
   generalize w.alloc (.map #[] 0) = w1 at hm0 hb0 ⊢
   refine (everything_c _ _ _ _ h7).mono ?_
   rintro e w' ⟨rfl, rfl⟩
   rw [← hD] at h2 hw1 ⊢
   have HD := Lib.hid hD
   clear hD
   go_wp2_with fail
   go_loopw [12] (fun i wr => ∃ k : Nat, k ≤ D ∧ i = .int .i64 k ∧ wr.ownsMap Tryz.prog 3 RS w.heap.size k (putAll (parts (closedN f) k)) ∧ Below w.heap.size w wr) (fun i _ => D - (intOf i).toNat)
   case atStart => exact ⟨0, Nat.zero_le _, rfl, hm0, hb0⟩
   case round =>
    obtain ⟨k, hk, rfl, hown, hbw⟩ := hrel
    clear hm0 hb0 w1
    by_cases hlt : k < D
    · have hrd := h.up hbw
      have hci := closedI_ok (m := k) hf (by have := HD.out; omega)
      have hwf : (Lit.int .i64 (k : Int)).wf = true := wf_small (by omega)
      rcases hc : closedN f k with _ | _
      · have HT := Lib.hid (parts_f (p := closedN f) hc)
        go_wp2_with fail
        refine (closedOk_c _ _ _ _ _ _ hrd).mono ?_
        rintro e w' ⟨rfl, rfl⟩
        rw [hci, hc]
        go_wp2_with fail
        go_roundw
        case rel => exact ⟨k + 1, by omega, by go_num, by rw [HT.out]; exact hown.mono (by omega), hbw⟩
        case measure => simp [intOf]; omega
      · have HT : Hid (putAll (parts (closedN f) (k + 1)) = (putAll (parts (closedN f) k)).put (.int .i64 (k : Int)) (.lit (.bool true))) := by unfold Hid; rw [parts_t hc, putAll_snoc]
        go_wp2_with fail
        refine (closedOk_c _ _ _ _ _ _ hrd).mono ?_
        rintro e w' ⟨rfl, rfl⟩
        rw [hci, hc]
        go_wp2_with (at_mapUpdate; refine wpList_mapUpdate_own wr rfl _ _ _ 147 rfl 3 148 (Maps.int_keyed Tryz.underlying3) Tryz.underlying147 RS w.heap.size k _ rfl hown (by unfold maxLen; omega) _ _ _ rfl rfl (Maps.keyOf_int_mk Tryz.underlying3 hwf) _ [] rfl ?_; intro w2 hown2 hg2)
        go_roundw
        case rel => exact ⟨k + 1, by omega, by go_num, by rw [HT.out]; exact hown2, hbw.grown hg2 hbw.size (fun j e => by cases e; exact Nat.le_refl _)⟩
        case measure => simp [intOf]; omega
    · obtain rfl : k = D := by omega
      have hasc := parts_asc (closedN f) k
      have hsz : Maps.size (putAll (parts (closedN f) k)) ≤ 1000 := by have := hown.size_le; omega
      have HP := Lib.hid (fun (ss : List Int) (hs : ss.Perm (intKeys (putAll (parts (closedN f) k)))) => putAll_sorted hasc hown hs)
      have hc1 := sorted_c _ _ _ _ hown hsz
      have hbk : Below w.heap.size w (wr.alloc (.cells #[.map (some w.heap.size)] 147)) := hbw.alloc hbw.size _
      go_wp2_with fail
      refine (keys_c _ _).mono ?_
      rintro e w2 ⟨rfl, hw2⟩
      rw [← hw2] at hc1 hbk
      clear hw2
      go_wp2_with fail
      refine hc1.mono ?_
      rintro e w3 ⟨v, ss, rfl, hS, hO, hb3⟩
      rw [HP.out ss hS] at hO
      have hO3 : OwnV w3 w.heap.size v (closedSetsI (ints f)) := by rw [HE.out, clsN, ← HD.out]; exact hO.more hbk.size
      have hB3 := bt hbk hb3
      clear hO hb3 hS HP hc1
      go_wp2_with fail
      go_ret
      exact ⟨v, rfl, hO3, hB3⟩
set_option maxRecDepth 100000 in
set_option maxHeartbeats 1600000 in
theorem sClosedSets_c (A : Option Addr) (n c : Nat) (xs : List Int) (w : World) (h : Rd w w.heap.size A n c xs) :
    Calls Tryz.prog 59 #[.slice A n c] w fun e w' => ∃ v, e = .returned v ∧ OwnV w' w.heap.size v (closedSetsI xs) ∧ Below w.heap.size w w' := by
 have hB0 : Below w.heap.size w (w.alloc (Obj.cells #[] 3)) := (Below.refl _ _).alloc (Nat.le_refl _) _
 have hO0 := OwnV.made w w.heap.size #[] (Nat.le_refl _) rfl
 have h0 := h.up hB0
 have hcp := h.cap
 have hmx := h.max
 unfold maxLen at hmx
 rcases hs : mapOk xs with _ | _
 · have HW := Lib.hid (closedSetsI_no hs)
   go_enter Tryz.func59, Tryz.ntmps59
   go_wp2_with fail
   generalize w.alloc (Obj.cells #[] 3) = w1 at hB0 hO0 h0 ⊢
   go_loopw [3, 4] (fun v i wr => v = .slice (some ⟨w.heap.size, 0, none⟩) 0 0 ∧ i = .int .i64 0 ∧ wr = w1) (fun _ i _ => 0)
   case atStart => exact ⟨rfl, rfl, rfl⟩
   case round =>
    obtain ⟨rfl, rfl, rfl⟩ := hrel
    go_wp2_with (go_at_call 67; refine (sMapOk_c _ _ _ _ _ h0).mono ?_; rintro e w' ⟨rfl, rfl⟩)
    go_ret
    exact ⟨_, rfl, by rw [HW.out]; exact hO0, hB0⟩
 · obtain ⟨f, rfl, hf⟩ := mapOk_ex hs
   obtain rfl : n = f.length := by rw [← h.len, ints_len]
   have HE := Lib.hid (closedSetsI_ok hf)
   have h7 := hf.le7
   have h2 := two_le h7
   have hpw : (2 : Int) ^ f.length = ((2 ^ f.length : Nat) : Int) := castPow _
   obtain ⟨D, hD⟩ : ∃ D, D = 2 ^ f.length := ⟨_, rfl⟩
   rw [← hD] at h2 hpw
   have hi1 : (1 : Int) ≤ (D : Int) := by omega
   have hi2 : (D : Int) ≤ 128 := by omega
   have hwD : IntKind.i64.wrap (D : Int) = (D : Int) := IntWalk.i64_in _ (by omega)
   have HD := Lib.hid hD
   clear hD
   go_enter Tryz.func59, Tryz.ntmps59
   go_wp2_with fail
   generalize w.alloc (Obj.cells #[] 3) = w1 at hB0 hO0 h0 ⊢
   go_loopw [3, 4] (fun v i wr => ∃ k : Nat, k ≤ D ∧ i = .int .i64 k ∧ OwnV wr w.heap.size v (ints (parts (closedN f) k)) ∧ Below w.heap.size w wr) (fun _ i _ => D - (intOf i).toNat)
   case atStart => exact ⟨0, Nat.zero_le _, rfl, hO0, hB0⟩
   case round =>
    obtain ⟨k, hk, rfl, hown, hbw⟩ := hrel
    clear hB0 hO0 h0 w1
    have hrd := h.up hbw
    by_cases hlt : k < D
    · have hdl : decide ((k : Int) < (D : Int)) = true := decide_eq_true (by omega)
      have hci := closedI_ok (m := k) hf (by have := HD.out; omega)
      have hln : (ints (parts (closedN f) k)).length ≤ 1000000000000 := by have := parts_len (closedN f) k; rw [ints_len]; omega
      have hsz := hbw.size
      rcases hc : closedN f k with _ | _
      · have HT := Lib.hid (parts_f (p := closedN f) hc)
        go_wp2_with (first
         | (go_at_call 67; refine (sMapOk_c _ _ _ _ _ hrd).mono ?_; rintro e w' ⟨rfl, rfl⟩)
         | (go_at_call 128; refine (sClosedOk_c _ _ _ _ _ _ hrd).mono ?_; rintro e w' ⟨rfl, rfl⟩))
        go_roundw
        case rel => exact ⟨k + 1, by omega, by go_num, by rw [HT.out]; exact hown, hbw⟩
        case measure => simp [intOf]; omega
      · have HT := Lib.hid (parts_t (p := closedN f) hc)
        go_wp2_with (first
         | (go_at_call 67; refine (sMapOk_c _ _ _ _ _ hrd).mono ?_; rintro e w' ⟨rfl, rfl⟩)
         | (go_at_call 128; refine (sClosedOk_c _ _ _ _ _ _ hrd).mono ?_; rintro e w' ⟨rfl, rfl⟩)
         | (at_builtin; refine app_int wr _ rfl _ _ rfl w.heap.size _ (ints (parts (closedN f) k)) rfl hown rfl hln hsz ?_; intro v' w3 hown3 hb3))
        go_roundw
        case rel => exact ⟨k + 1, by omega, by go_num, by rw [HT.out, ints_append, ints_single]; exact hown3, hbw.trans hb3⟩
        case measure => simp [intOf]; omega
    · obtain rfl : k = D := by omega
      have hdl : decide ((k : Int) < (k : Int)) = false := decide_eq_false (by omega)
      go_wp2_with (go_at_call 67; refine (sMapOk_c _ _ _ _ _ hrd).mono ?_; rintro e w' ⟨rfl, rfl⟩)
      go_ret
      exact ⟨_, rfl, by rw [HE.out, clsN, ← HD.out]; exact hown, hbw⟩
end
end Go.Proofs.YtoinlkdmfclnbaaGreatDoor
