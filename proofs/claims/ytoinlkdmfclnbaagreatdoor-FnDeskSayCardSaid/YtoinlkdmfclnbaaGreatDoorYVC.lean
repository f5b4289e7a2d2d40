/- Bundle VC. -/
import Derived.Lib.Join
import Derived.Test.YtoinlkdmfclnbaaGreatDoorYV1
import Derived.Test.YtoinlkdmfclnbaaGreatDoorYV10
import Derived.Test.YtoinlkdmfclnbaaGreatDoorYV9
import Derived.Test.YtoinlkdmfclnbaaGreatDoorYVE
namespace Go.Proofs.YtoinlkdmfclnbaaGreatDoor
set_option linter.unusedVariables false
section
abbrev Tx := List UInt8
def leT (a b : Tx) : Bool := decide (a ≤ b)
def srt (l : List Tx) : List Tx := l.mergeSort leT
def kidsK (f : List Nat) (t m : Nat) : List Nat := (List.range m).filter (fun j => decide (nx f j = t) && !onL f j)
def kids (f : List Nat) (t : Nat) : List Nat := kidsK f t f.length
def treeT (f : List Nat) : Nat → Nat → Tx
 | 0, _ => []
 | k + 1, i => [40] ++ Lib.join (srt ((kids f i).map (treeT f k))) [] ++ [41]
def rot (ts : List Tx) (j : Nat) : Tx := Lib.join (ts.drop j) [] ++ Lib.join (ts.take j) []
def minK (ts : List Tx) : Nat → Tx
 | 0 => Lib.join ts []
 | K + 1 => if rot ts K < minK ts K then rot ts K else minK ts K
def loopTs (f : List Nat) (i : Nat) : List Tx := (way f (lo f i)).map (treeT f f.length)
def loopT (f : List Nat) (i : Nat) : Tx := minK (loopTs f i) (loopTs f i).length
def repsN (f : List Nat) (m : Nat) : List Nat := (List.range m).filter (fun k => decide (lo f k = k))
def shapeT (f : List Nat) : Tx := Lib.join (srt ((repsN f f.length).map (loopT f))) [43]
theorem join_flat (ts : List Tx) : Lib.join ts [] = ts.flatten := by
 cases ts with
 | nil => rfl
 | cons x r => rw [Lib.join_cons]; simp [Lib.joinTail]
theorem per_mul {T : Nat → Tx} {l : Nat} (hp : ∀ m, T (m + l) = T m) (m : Nat) : ∀ q, T (m + q * l) = T m
 | 0 => by simp
 | q + 1 => by rw [show m + (q + 1) * l = m + q * l + l by rw [Nat.add_mul]; omega, hp, per_mul hp m q]
theorem minK_at (ts : List Tx) : ∀ K, ∃ j, minK ts K = rot ts j ∧ (j < K ∨ j = 0)
 | 0 => ⟨0, by unfold minK rot; simp [join_flat], .inr rfl⟩
 | K + 1 => by
  obtain ⟨j, h1, h2⟩ := minK_at ts K
  rw [show minK ts (K + 1) = if rot ts K < minK ts K then rot ts K else minK ts K from rfl]
  split
  · exact ⟨K, rfl, .inl (Nat.lt_succ_self _)⟩
  · exact ⟨j, h1, by omega⟩
structure Cj (f g p : List Nat) : Prop where
 hf : MapN f
 hg : MapN g
 hp : MapN p
 lg : g.length = f.length
 lp : p.length = f.length
 inj : ∀ i j, i < f.length → j < f.length → nx p i = nx p j → i = j
 sur : ∀ k, k < f.length → ∃ i, i < f.length ∧ nx p i = k
 com : ∀ i, i < f.length → nx g (nx p i) = nx p (nx f i)
section
variable {f g p : List Nat} (h : Cj f g p)
include h
end
theorem lo_it {f : List Nat} (hf : MapN f) {k : Nat} (hk : k < f.length) : ∀ s, lo f (it f s k) = lo f k := by
 intro s
 have hs := it_lt hf hk s
 obtain ⟨i, h1, h2, e⟩ := lo_mem hf hs
 obtain ⟨i', h1', h2', e'⟩ := lo_mem hf hk
 have hl := ll_pos hf hk
 have hq : ∀ x y : Nat, ∃ q, x ≤ y + q * ll f k := fun x y => ⟨x, by have := Nat.le_mul_of_pos_right x hl; omega⟩
 refine Nat.le_antisymm ?_ ?_
 · obtain ⟨q, hq⟩ := hq (tl f (it f s k) + s) i'
   have hz := lo_le_all hf hs (i := i' + q * ll f k - s) (by omega)
   rw [← it_add, show i' + q * ll f k - s + s = i' + q * ll f k by omega, it_rounds hf hk i' h1', e'] at hz
   exact hz
 · obtain ⟨q, hq⟩ := hq (tl f k) (i + s)
   have hls := ll_pos hf hs
   have hz := lo_le_all hf hk (i := i + s + tl f k * ll f (it f s k)) (by have := Nat.le_mul_of_pos_right (tl f k) hls; omega)
   rw [show i + s + tl f k * ll f (it f s k) = (i + tl f k * ll f (it f s k)) + s by omega, it_add, it_rounds hf hs i h1, e] at hz
   exact hz
theorem lo_reach {f : List Nat} (hf : MapN f) {k : Nat} (hk : k < f.length) : ∃ s, it f s k = lo f k := by
 obtain ⟨i, _, _, e⟩ := lo_mem hf hk
 exact ⟨i, e⟩
theorem loopTs_eq (f : List Nat) (i : Nat) : loopTs f i = (List.range (wl f (lo f i))).map (fun m => treeT f f.length (it f m (lo f i))) := by
 unfold loopTs way orb; rw [List.map_map]; rfl
section
variable {f g p : List Nat} (h : Cj f g p)
include h
end
end
section
def gX (l : List Tx) (k : Nat) : Tx := l.getD k []
theorem gX_get {l : List Tx} {k : Nat} (h : k < l.length) : gX l k = l[k] := by simp [gX, List.getD, List.getElem?_eq_getElem h]
theorem gX_set {l : List Tx} {i k : Nat} {x : Tx} (hi : i < l.length) : gX (l.set i x) k = if i = k then x else gX l k := by
 unfold gX
 simp only [List.getD]
 rw [List.getElem?_set]
 split
 · rename_i h; subst h; simp
 · rfl
def Insd (l : List Tx) (k j : Nat) : Prop := ∀ a b, a < b → b < k → b ≠ j → gX l a ≤ gX l b
def AscT (l : List Tx) (k : Nat) : Prop := ∀ a b, a < b → b < k → gX l a ≤ gX l b
def swapT (l : List Tx) (j : Nat) : List Tx := (l.set j (gX l (j - 1))).set (j - 1) (gX l j)
theorem swapT_at {l : List Tx} {j : Nat} (h0 : 0 < j) (hj : j < l.length) (k : Nat) : gX (swapT l j) k = if k = j - 1 then gX l j else if k = j then gX l (j - 1) else gX l k := by
 unfold swapT
 rw [gX_set (by rw [List.length_set]; omega), gX_set hj]
 by_cases h1 : k = j - 1
 · subst h1; simp
 · rw [if_neg (fun e => h1 e.symm), if_neg h1]
   by_cases h2 : k = j
   · subst h2; simp
   · rw [if_neg (fun e => h2 e.symm), if_neg h2]
theorem swapT_perm {l : List Tx} {j : Nat} (h0 : 0 < j) (hj : j < l.length) : (swapT l j).Perm l := by
 have h1 : j - 1 < l.length := by omega
 have := List.set_set_perm hj h1
 unfold swapT
 rw [gX_get hj, gX_get h1]
 exact this
theorem Insd.swap {l : List Tx} {k j : Nat} (h : Insd l k j) (h0 : 0 < j) (hjk : j < k) (hk : k ≤ l.length) (hlt : gX l j < gX l (j - 1)) : Insd (swapT l j) k (j - 1) := by
 intro a b hab hb hne
 have hj : j < l.length := by omega
 rw [swapT_at h0 hj, swapT_at h0 hj, if_neg hne]
 by_cases hbj : b = j
 · rw [if_pos hbj]
   by_cases ha : a = j - 1
   · rw [if_pos ha]; exact List.le_of_lt hlt
   · rw [if_neg ha, if_neg (by omega)]
     exact h a (j - 1) (by omega) (by omega) (by omega)
 · rw [if_neg hbj]
   by_cases ha : a = j - 1
   · rw [if_pos ha]
     exact h j b (by omega) hb hbj
   · rw [if_neg ha]
     by_cases ha2 : a = j
     · rw [if_pos ha2]
       exact h (j - 1) b (by omega) hb hbj
     · rw [if_neg ha2]; exact h a b hab hb hbj
theorem Insd.done {l : List Tx} {k j : Nat} (h : Insd l k j) (hd : j = 0 ∨ ¬ gX l j < gX l (j - 1)) : AscT l k := by
 intro a b hab hb
 by_cases hbj : b = j
 · subst hbj
   rcases hd with hd | hd
   · omega
   · have h1 : gX l (b - 1) ≤ gX l b := List.not_lt.1 hd
     by_cases ha : a = b - 1
     · rw [ha]; exact h1
     · exact List.le_trans (h a (b - 1) (by omega) (by omega) (by omega)) h1
 · exact h a b hab hb hbj
theorem AscT.next {l : List Tx} {k : Nat} (h : AscT l k) : Insd l (k + 1) k := fun a b hab hb hne => h a b hab (by omega)
theorem ascT_one (l : List Tx) : AscT l 1 := fun a b hab hb => by omega
theorem srt_of {l ts : List Tx} (hp : l.Perm ts) (h : AscT l l.length) : l = srt ts := by
 have tr : ∀ a b c : Tx, leT a b = true → leT b c = true → leT a c = true := fun a b c h1 h2 => by simp only [leT, decide_eq_true_eq] at *; exact List.le_trans h1 h2
 have to : ∀ a b : Tx, (leT a b || leT b a) = true := fun a b => by simp only [leT, Bool.or_eq_true, decide_eq_true_eq]; exact List.le_total a b
 refine List.Perm.eq_of_pairwise (le := fun a b => leT a b = true) (fun a b _ _ h1 h2 => ?_) ?_ (List.pairwise_mergeSort tr to ts) (hp.trans (List.mergeSort_perm ts leT).symm)
 · simp only [leT, decide_eq_true_eq] at h1 h2
   exact List.le_antisymm h1 h2
 · rw [List.pairwise_iff_getElem]
   intro i j hi hj hij
   have := h i j hij hj
   rw [gX_get hi, gX_get hj] at this
   simp only [leT, decide_eq_true_eq]
   exact this
end
section
open Go.RowKit
theorem has_no {f : List Nat} {k : Nat} (h : ∀ j, j < f.length → nx f j ≠ k) : f.contains k = false := by
 rw [← Bool.not_eq_true, List.contains_iff_mem]
 intro hm
 obtain ⟨j, hj, e⟩ := List.getElem_of_mem hm
 exact h j hj (by rw [nx_get hj]; exact e)
theorem has_yes {f : List Nat} {k j : Nat} (hj : j < f.length) (h : nx f j = k) : f.contains k = true := by
 rw [List.contains_iff_mem, ← h, nx_get hj]
 exact List.getElem_mem hj
theorem int_eqb {a b : Nat} (h : a = b) : ((a : Int) == (b : Int)) = true := by rw [h]; simp
theorem int_neb {a b : Nat} (h : a ≠ b) : ((a : Int) == (b : Int)) = false := by rw [beq_eq_false_iff_ne]; omega
set_option maxRecDepth 100000 in
set_option maxHeartbeats 1600000 in
theorem sImageOf_c {f : List Nat} (hf : MapN f) (A : Option Addr) (c : Nat) (w : World) (h : Rd w w.heap.size A f.length c (ints f)) :
    Calls Tryz.prog 57 #[.slice A f.length c] w fun e w' => ∃ v, e = .returned v ∧ OwnV w' w.heap.size v (ints (imgN f)) ∧ Below w.heap.size w w' := by
 have hcp := h.cap
 have hmx := h.max
 unfold maxLen at hmx
 have h7 := hf.le7
 have hs := mapOk_ints hf
 have hO1 := OwnV.made w w.heap.size #[] (Nat.le_refl _) rfl
 have hb1 : Below w.heap.size w (w.alloc (Obj.cells #[] 3)) := (Below.refl _ _).alloc (Nat.le_refl _) _
 have HI : Hid (imgN f = parts (fun j => f.contains j) f.length) := Lib.hid rfl
 have HF := Lib.hid hf
 go_enter Tryz.func57, Tryz.ntmps57
 go_wp2_with fail
 generalize w.alloc (Obj.cells #[] 3) = w1 at *
 go_loopw [3, 4] (fun v i wr => ∃ (k : Nat), k ≤ f.length ∧ i = .int .i64 k ∧ OwnV wr w.heap.size v (ints (parts (fun j => f.contains j) k)) ∧ Below w.heap.size w wr) (fun _ i _ => f.length - (intOf i).toNat)
 case atStart => exact ⟨0, Nat.zero_le _, rfl, hO1, hb1⟩
 case round =>
  clear hO1 hb1
  obtain ⟨k, hk, rfl, hO, hbw⟩ := hrel
  have hrd := h.up hbw
  have K1 := sMapOk_b _ _ _ _ _ _ hrd hs
  by_cases hlt : k < f.length
  · have hz := hbw.size
    have hpl := parts_len (fun j => f.contains j) k
    have HPT : Hid (f.contains k = true → ints (parts (fun j => f.contains j) (k + 1)) = ints (parts (fun j => f.contains j) k) ++ [(k : Int)]) := Lib.hid (fun hc => by rw [parts_t (p := fun j => f.contains j) hc, ints_append]; rfl)
    have HPF : Hid (f.contains k = false → parts (fun j => f.contains j) (k + 1) = parts (fun j => f.contains j) k) := Lib.hid (fun hc => parts_f (p := fun j => f.contains j) hc)
    have hlx : (ints (parts (fun j => f.contains j) k)).length ≤ 7 := by rw [ints_len]; omega
    obtain ⟨xs, hxs⟩ : ∃ xs, ints (parts (fun j => f.contains j) k) = xs := ⟨_, rfl⟩
    rw [hxs] at hO hlx HPT
    have HX := Lib.hid hxs
    clear hxs
    have HO := Lib.hid hO
    have HB := Lib.hid hbw
    clear hO hbw
    obtain ⟨b, off, rfl, hb, hcell0⟩ := hrd.2.2.2 (by omega)
    have HC := Lib.hid hcell0
    clear hcell0
    go_wp2_with (go_at_call 67; with_reducible refine K1.mono ?_; rintro e w' ⟨rfl, rfl⟩)
    obtain ⟨wo, rfl⟩ : ∃ wo : World, wo = wr := ⟨_, rfl⟩
    go_loopw [3, 5] (fun v i wr => ∃ j : Nat, j ≤ f.length ∧ i = .int .i64 (j : Int) ∧ (∀ q, q < j → nx f q ≠ k) ∧ OwnV wr w.heap.size v xs ∧ wr = wo) (fun _ i _ => f.length - (intOf i).toNat)
    case atStart => exact ⟨0, Nat.zero_le _, rfl, fun q hq => absurd hq (Nat.not_lt_zero _), HO.out, rfl⟩
    case round =>
     clear HO
     obtain ⟨j, hj, rfl, hno, hO, rfl⟩ := hrel
     have HO := Lib.hid hO
     clear hO
     have HN := Lib.hid hno
     clear hno
     by_cases hlj : j < f.length
     · have hcell := HC.out j hlj
       rw [gI_ints] at hcell
       have hj0 : (0 : Int) ≤ (j : Int) := Int.natCast_nonneg _
       have hj1 : (j : Int) < (f.length : Int) := by omega
       by_cases he : nx f j = k
       · have hq := int_eqb he
         have HY : Hid (ints (parts (fun j => f.contains j) (k + 1)) = xs ++ [(k : Int)]) := Lib.hid (HPT.out (has_yes hlj he))
         clear he
         go_wp2_with (at_builtin; refine app_int wr (k : Int) rfl _ _ rfl w.heap.size _ xs rfl HO.out rfl (by omega) (by omega) ?_; intro v' w4 hown4 hb4)
         go_roundw
         case rel => exact ⟨k + 1, by omega, by go_num, by rw [HY.out]; exact hown4, HB.out.trans hb4⟩
         case measure => simp [intOf]; omega
       · have hq := int_neb he
         have HE := Lib.hid he
         clear he
         go_wp2_with fail
         go_roundw
         case rel => exact ⟨j + 1, by omega, by go_num, fun q hq9 => by
          rcases Nat.lt_or_ge q j with h9 | h9
          · exact HN.out q h9
          · obtain rfl : q = j := by omega
            exact HE.out, HO.out, by first | rfl | trivial⟩
         case measure => simp [intOf]; omega
     · obtain rfl : j = f.length := by omega
       have HY : Hid (ints (parts (fun j => f.contains j) (k + 1)) = xs) := Lib.hid (by rw [HPF.out (has_no (fun q hq => HN.out q hq))]; exact HX.out)
       go_wp2_with fail
       go_roundw
       case rel => exact ⟨k + 1, by omega, by go_num, by rw [HY.out]; exact HO.out, HB.out⟩
       case measure => simp [intOf]; omega
  · obtain rfl : k = f.length := by omega
    rw [← HI.out] at hO
    go_wp2_with fail
    go_ret
    exact ⟨_, rfl, hO, hbw⟩
end
end Go.Proofs.YtoinlkdmfclnbaaGreatDoor
