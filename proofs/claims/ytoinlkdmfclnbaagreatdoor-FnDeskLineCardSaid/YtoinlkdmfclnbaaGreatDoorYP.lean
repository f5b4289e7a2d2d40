/- Bundle P. -/
import Derived.WalkKit
import Derived.WalkSpells
import Derived.WalkLawsBesides
import Derived.Lib.Hide
import Derived.Below
import Derived.Laws.OwnMore
import Derived.Deep.AppendLies
import Derived.Deep.Draws
import Derived.Laws.BitsAllLaws
namespace Go.Proofs.YtoinlkdmfclnbaaGreatDoor
set_option linter.unusedVariables false
section
open Go.RowKit
def gI (xs : List Int) (k : Nat) : Int := xs.getD k 0
def Rd (w : World) (B : Nat) (A : Option Addr) (n c : Nat) (xs : List Int) : Prop :=
 xs.length = n ∧ n ≤ c ∧ c ≤ maxLen ∧ (0 < n → ∃ b off, A = some ⟨b, off, none⟩ ∧ b < B ∧ ∀ k, k < n → w.cell? ⟨b, off + k, none⟩ = some (.int .i64 (gI xs k)))
def Own (w : World) (B : Nat) (A : Option Addr) (n c : Nat) (xs : List Int) : Prop :=
 xs.length = n ∧ w.ownsRow B 3 1 (.slice A n c) n (xs.map (Value.int .i64))
section
variable {w w' : World} {B B' n c : Nat} {A : Option Addr} {xs : List Int}
theorem Rd.len (h : Rd w B A n c xs) : xs.length = n := h.1
theorem Rd.cap (h : Rd w B A n c xs) : n ≤ c := h.2.1
theorem Rd.max (h : Rd w B A n c xs) : c ≤ maxLen := h.2.2.1
theorem Rd.at_ (h : Rd w B A n c xs) {k : Nat} (hk : k < n) : ∃ b off, A = some ⟨b, off, none⟩ ∧ b < B ∧ w.cell? ⟨b, off + k, none⟩ = some (.int .i64 (gI xs k)) := by
 obtain ⟨b, off, e, hb, hc⟩ := h.2.2.2 (by omega)
 exact ⟨b, off, e, hb, hc k hk⟩
theorem Rd.nil_ (w : World) (B : Nat) : Rd w B none 0 0 [] := ⟨rfl, Nat.le_refl _, Nat.zero_le _, fun h => absurd h (by omega)⟩
theorem Rd.keep (h : Rd w B A n c xs) (hk : ∀ p : Addr, p.block < B → w'.cell? p = w.cell? p) : Rd w' B A n c xs :=
 ⟨h.1, h.2.1, h.2.2.1, fun hn => by
  obtain ⟨b, off, e, hb, hc⟩ := h.2.2.2 hn
  exact ⟨b, off, e, hb, fun k hk' => (hk _ hb).trans (hc k hk')⟩⟩
theorem Rd.more (h : Rd w B A n c xs) (hB : B ≤ B') : Rd w B' A n c xs :=
 ⟨h.1, h.2.1, h.2.2.1, fun hn => by
  obtain ⟨b, off, e, hb, hc⟩ := h.2.2.2 hn
  exact ⟨b, off, e, by omega, hc⟩⟩
theorem Rd.below (h : Rd w B A n c xs) (hb : Below B w w') : Rd w' B A n c xs := h.keep fun _ hp => hb.cell hp
theorem Rd.up (h : Rd w w.heap.size A n c xs) (hb : Below w.heap.size w w') : Rd w' w'.heap.size A n c xs := (h.below hb).more hb.size
theorem Rd.dn (h : Rd w w.heap.size A n c xs) (m : Nat) : Rd (w.drewN m) (w.drewN m).heap.size A n c xs := h.keep fun _ _ => rfl
theorem Own.row (h : Own w B A n c xs) : w.ownsRow B 3 1 (.slice A n c) n (xs.map (Value.int .i64)) := h.2
theorem Own.rd (h : Own w B A n c xs) : Rd w w.heap.size A n c xs := by
 obtain ⟨h1, h2, h3⟩ := h
 rcases h3 with ⟨e, rfl⟩ | ⟨g, cap, cur, e, hb, hg, hnc, hcm, hcs, ht⟩
 · cases e
   exact ⟨h1, Nat.le_refl _, Nat.zero_le _, fun h => absurd h (by omega)⟩
 · cases e
   refine ⟨h1, hnc, hcm, fun _ => ⟨g, 0, rfl, (Array.getElem?_eq_some_iff.1 hg).1, fun k hk => ?_⟩⟩
   have hown : w.ownsRow B 3 1 (.slice (some ⟨g, 0, none⟩) n c) n (xs.map (Value.int .i64)) := ⟨h2, .inr ⟨g, c, cur, rfl, hb, hg, hnc, hcm, hcs, ht⟩⟩
   have := hown.cellAt k (by omega)
   rw [Nat.zero_add, this]
   have hk' : k < xs.length := by omega
   simp [gI, List.getD, List.getElem?_eq_getElem hk']
end
theorem bt {w a b : World} (h : Below w.heap.size w a) (k : Below a.heap.size a b) : Below w.heap.size w b := h.trans (k.mono h.size)
theorem bd {B : Nat} {w a : World} (h : Below B w a) (m : Nat) : Below B w (a.drewN m) := ⟨h.os, h.tape, h.output, h.size, h.block⟩
theorem qS {P : Program} {f : FuncId} {args : Array Value} {w : World} {n : Nat} {v : Value}
    (h : Calls P f args (w.drewN n) fun e w' => e = .returned v ∧ w.drewN n = w') : Calls P f args (w.drewN n) fun e w'' => e = .returned v ∧ ∃ m, w'' = w.drewN m :=
 h.mono fun _ _ ⟨he, hm⟩ => ⟨he, n, hm.symm⟩
end
section
def inB (x lo hi : Int) : Bool := decide (lo ≤ x ∧ x ≤ hi)
def hasB (n : Nat) (t : Int) : Bool := decide (0 ≤ t ∧ t < (n : Int))
def allHas (n : Nat) (xs : List Int) : Bool := xs.all (hasB n)
def mapOk (xs : List Int) : Bool := decide (1 ≤ xs.length ∧ xs.length ≤ 7) && allHas xs.length xs
theorem hasB_iff {n : Nat} {t : Int} : hasB n t = true ↔ 0 ≤ t ∧ t < (n : Int) := by simp [hasB]
theorem hasB_not {n : Nat} {t : Int} : hasB n t = false ↔ ¬ (0 ≤ t ∧ t < (n : Int)) := by simp [hasB]
theorem inB_iff {x lo hi : Int} : inB x lo hi = true ↔ lo ≤ x ∧ x ≤ hi := by simp [inB]
theorem inB_not {x lo hi : Int} : inB x lo hi = false ↔ ¬ (lo ≤ x ∧ x ≤ hi) := by simp [inB]
theorem hasB_inB {n : Nat} {t : Int} : inB t 0 ((n : Int) - 1) = hasB n t := by
 unfold inB hasB; congr 1; simp only [eq_iff_iff]; omega
theorem gI_get {xs : List Int} {k : Nat} (hk : k < xs.length) : gI xs k = xs[k] := by simp [gI, List.getD, List.getElem?_eq_getElem hk]
theorem allHas_iff {n : Nat} {xs : List Int} : allHas n xs = true ↔ ∀ k, k < xs.length → hasB n (gI xs k) = true := by
 unfold allHas
 rw [List.all_eq_true]
 constructor
 · intro h k hk; rw [gI_get hk]; exact h _ (List.getElem_mem hk)
 · intro h x hx
   obtain ⟨k, hk, rfl⟩ := List.mem_iff_getElem.1 hx
   have := h k hk
   rwa [gI_get hk] at this
theorem allHas_not {n : Nat} {xs : List Int} {k : Nat} (hk : k < xs.length) (h : hasB n (gI xs k) = false) : allHas n xs = false := by
 rcases e : allHas n xs with _ | _
 · rfl
 · have := allHas_iff.1 e k hk
   rw [h] at this; cases this
theorem mapOk_all {xs : List Int} (h1 : 1 ≤ xs.length) (h2 : xs.length ≤ 7) : mapOk xs = allHas xs.length xs := by simp [mapOk, h1, h2]
theorem mapOk_len {xs : List Int} (h : ¬ (1 ≤ xs.length ∧ xs.length ≤ 7)) : mapOk xs = false := by
 unfold mapOk
 rw [decide_eq_false h]; rfl
end
section
def nx (f : List Nat) (k : Nat) : Nat := f.getD k 0
def ints (f : List Nat) : List Int := f.map (fun x : Nat => (x : Int))
def toN (xs : List Int) : List Nat := xs.map Int.toNat
structure MapN (f : List Nat) : Prop where
 pos : 1 ≤ f.length
 le7 : f.length ≤ 7
 has : ∀ k, k < f.length → nx f k < f.length
theorem nx_get {f : List Nat} {k : Nat} (hk : k < f.length) : nx f k = f[k] := by simp [nx, List.getD, List.getElem?_eq_getElem hk]
theorem ints_len (f : List Nat) : (ints f).length = f.length := by simp [ints]
theorem gI_ints (f : List Nat) (k : Nat) : gI (ints f) k = (nx f k : Int) := by
 unfold gI ints nx
 simp only [List.getD, List.getElem?_map]
 cases f[k]? <;> simp
theorem ints_toN {xs : List Int} (h : ∀ x ∈ xs, 0 ≤ x) : ints (toN xs) = xs := by
 unfold ints toN
 rw [List.map_map]
 conv => rhs; rw [← List.map_id xs]
 exact List.map_congr_left (fun x hx => by simpa using Int.toNat_of_nonneg (h x hx))
theorem mapOk_ex {xs : List Int} (h : mapOk xs = true) : ∃ f, xs = ints f ∧ MapN f := by
 unfold mapOk at h
 rw [Bool.and_eq_true, decide_eq_true_eq] at h
 obtain ⟨⟨h1, h7⟩, ha⟩ := h
 have hall := allHas_iff.1 ha
 have e : ints (toN xs) = xs := ints_toN (fun x hx => by
  obtain ⟨k, hk, rfl⟩ := List.mem_iff_getElem.1 hx
  have := hall k hk
  rw [gI_get hk, hasB_iff] at this
  exact this.1)
 have hlen : (toN xs).length = xs.length := by simp [toN]
 refine ⟨toN xs, e.symm, by omega, by omega, fun k hk => ?_⟩
 have := hall k (by omega)
 rw [← e, gI_ints, hasB_iff, ints_len] at this
 omega
theorem mapOk_ints {f : List Nat} (h : MapN f) : mapOk (ints f) = true := by
 unfold mapOk
 rw [Bool.and_eq_true, decide_eq_true_eq, ints_len]
 refine ⟨⟨h.pos, h.le7⟩, allHas_iff.2 (fun k hk => ?_)⟩
 rw [ints_len] at hk
 rw [gI_ints, hasB_iff]
 have := h.has k hk
 omega
theorem two_le {k : Nat} (hk : k ≤ 7) : 1 ≤ 2 ^ k ∧ 2 ^ k ≤ 128 := by
 have h := Nat.pow_le_pow_right (n := 2) (by omega) hk
 exact ⟨Nat.one_le_two_pow, by simpa using h⟩
theorem castPow (k : Nat) : (2 : Int) ^ k = ((2 ^ k : Nat) : Int) := by simp
theorem ofInt64 (a : Nat) (ha : a < 9223372036854775808) : (BitVec.ofInt 64 (a : Int)).toNat = a := by
 rw [BitVec.ofInt_natCast, BitVec.toNat_ofNat]; exact Nat.mod_eq_of_lt (by omega)
theorem wrapSmall (a : Nat) (ha : a < 9223372036854775808) : IntKind.i64.wrap (a : Int) = (a : Int) := IntWalk.i64_in _ (by omega)
theorem bits_and (a b : Nat) (ha : a < 9223372036854775808) (hb : b < 9223372036854775808) : bits .and .i64 (a : Int) (b : Int) = ((a &&& b : Nat) : Int) := by
 have hx : a &&& b < 2 ^ 63 := Nat.and_lt_two_pow _ (by omega)
 show IntKind.i64.wrap ((BitVec.ofInt 64 (a : Int) &&& BitVec.ofInt 64 (b : Int)).toNat : Int) = _
 rw [BitVec.toNat_and, ofInt64 a ha, ofInt64 b hb]
 exact wrapSmall _ (by omega)
theorem bits_or (a b : Nat) (ha : a < 9223372036854775808) (hb : b < 9223372036854775808) : bits .or .i64 (a : Int) (b : Int) = ((a ||| b : Nat) : Int) := by
 have hx : a ||| b < 2 ^ 63 := Nat.or_lt_two_pow (by omega) (by omega)
 show IntKind.i64.wrap ((BitVec.ofInt 64 (a : Int) ||| BitVec.ofInt 64 (b : Int)).toNat : Int) = _
 rw [BitVec.toNat_or, ofInt64 a ha, ofInt64 b hb]
 exact wrapSmall _ (by omega)
theorem bits_andNot (a b : Nat) (ha : a < 9223372036854775808) (hb : b < 9223372036854775808) : bits .andNot .i64 (a : Int) (b : Int) = ((a &&& (18446744073709551615 - b) : Nat) : Int) := by
 have hx : a &&& (18446744073709551615 - b) < 2 ^ 63 := by
  rw [Nat.and_comm]; exact Nat.and_lt_two_pow _ (by omega)
 show IntKind.i64.wrap ((BitVec.ofInt 64 (a : Int) &&& ~~~BitVec.ofInt 64 (b : Int)).toNat : Int) = _
 rw [BitVec.toNat_and, BitVec.toNat_not, ofInt64 a ha, ofInt64 b hb]
 have e : 2 ^ 64 - 1 - b = 18446744073709551615 - b := by omega
 rw [e]
 exact wrapSmall _ (by omega)
def allN (f : List Nat) : Nat := 2 ^ f.length - 1
theorem testBit_two (k j : Nat) : (2 ^ k).testBit j = decide (k = j) := Nat.testBit_two_pow
theorem and_two_ne (m k : Nat) : (m &&& 2 ^ k != 0) = m.testBit k := by
 rcases h : m.testBit k with _ | _
 · have : m &&& 2 ^ k = 0 := by
    apply Nat.eq_of_testBit_eq
    intro j
    rw [Nat.testBit_and, testBit_two, Nat.zero_testBit]
    by_cases e : k = j
    · subst e; simp [h]
    · simp [e]
   simp [this]
 · have : m &&& 2 ^ k ≠ 0 := by
    intro e
    have h2 : (m &&& 2 ^ k).testBit k = true := by simp [h]
    rw [e, Nat.zero_testBit] at h2; cases h2
   simpa using this
def ledK (f : List Nat) (m : Nat) : Nat → Nat
 | 0 => 0
 | k + 1 => if m.testBit k then ledK f m k ||| 2 ^ nx f k else ledK f m k
def led (f : List Nat) (m : Nat) : Nat := ledK f m f.length
theorem ledK_bit (f : List Nat) (m j : Nat) : ∀ k, (ledK f m k).testBit j = true ↔ ∃ i, i < k ∧ m.testBit i = true ∧ nx f i = j
 | 0 => by simp [ledK]
 | k + 1 => by
  have ih := ledK_bit f m j k
  unfold ledK
  split
  · rename_i h
    rw [Nat.testBit_or, Bool.or_eq_true, ih, testBit_two, decide_eq_true_eq]
    constructor
    · rintro (⟨i, hi, hb, e⟩ | e)
      · exact ⟨i, by omega, hb, e⟩
      · exact ⟨k, by omega, h, e⟩
    · rintro ⟨i, hi, hb, e⟩
      by_cases hik : i = k
      · subst hik; exact .inr e
      · exact .inl ⟨i, by omega, hb, e⟩
  · rename_i h
    rw [ih]
    constructor
    · rintro ⟨i, hi, hb, e⟩; exact ⟨i, by omega, hb, e⟩
    · rintro ⟨i, hi, hb, e⟩
      by_cases hik : i = k
      · subst hik; exact absurd hb h
      · exact ⟨i, by omega, hb, e⟩
theorem led_bit (f : List Nat) (m j : Nat) : (led f m).testBit j = true ↔ ∃ i, i < f.length ∧ m.testBit i = true ∧ nx f i = j := ledK_bit f m j _
theorem lt_two_of_bits {m n : Nat} (h : ∀ j, m.testBit j = true → j < n) : m < 2 ^ n := by
 apply Nat.lt_pow_two_of_testBit
 intro i hi
 rcases e : m.testBit i with _ | _
 · rfl
 · have := h i e; omega
theorem bit_lt {m n j : Nat} (h : m < 2 ^ n) (hj : m.testBit j = true) : j < n := by
 rcases Nat.lt_or_ge j n with h' | h'
 · exact h'
 · have := Nat.testBit_lt_two_pow (Nat.lt_of_lt_of_le h (Nat.pow_le_pow_right (by omega) h'))
   rw [this] at hj; cases hj
theorem ledK_lt {f : List Nat} (hf : MapN f) (m k : Nat) (hk : k ≤ f.length) : ledK f m k < 2 ^ f.length :=
 lt_two_of_bits (fun j hj => by
  obtain ⟨i, hi, _, e⟩ := (ledK_bit f m j k).1 hj
  have := hf.has i (by omega)
  omega)
theorem led_lt {f : List Nat} (hf : MapN f) (m : Nat) : led f m < 2 ^ f.length := ledK_lt hf m _ (Nat.le_refl _)
def setOk (xs : List Int) (s : Int) : Bool := mapOk xs && inB s 0 (((2 ^ xs.length : Nat) : Int) - 1)
theorem setOk_ex {xs : List Int} {s : Int} (h : setOk xs s = true) : ∃ f m, xs = ints f ∧ s = ((m : Nat) : Int) ∧ MapN f ∧ m < 2 ^ f.length := by
 unfold setOk at h
 rw [Bool.and_eq_true, inB_iff] at h
 obtain ⟨h1, h2, h3⟩ := h
 obtain ⟨f, rfl, hf⟩ := mapOk_ex h1
 obtain ⟨m, rfl⟩ := Int.eq_ofNat_of_zero_le h2
 refine ⟨f, m, rfl, rfl, hf, ?_⟩
 rw [ints_len] at h3
 omega
theorem setOk_ints {f : List Nat} {m : Nat} (hf : MapN f) (hm : m < 2 ^ f.length) : setOk (ints f) (m : Int) = true := by
 unfold setOk
 rw [mapOk_ints hf, Bool.true_and, inB_iff, ints_len]
 omega
end
section
theorem nodup_le : ∀ (n : Nat) (l : List Nat), l.Nodup → (∀ x ∈ l, x < n) → l.length ≤ n
 | 0, l, _, h => by
  cases l with
  | nil => simp
  | cons a r => exact absurd (h a (by simp)) (by omega)
 | n + 1, l, hd, h => by
  have h1 : (l.erase n).length ≤ n := nodup_le n (l.erase n) (hd.erase n) (fun x hx => by
   have hx' := List.mem_of_mem_erase hx
   have := h x hx'
   rcases Nat.lt_or_ge x n with h2 | h2
   · exact h2
   · obtain rfl : x = n := by omega
     exact absurd rfl ((hd.mem_erase_iff.1 hx).1))
  have h2 := List.length_erase (a := n) (l := l)
  split at h2 <;> omega
def it (f : List Nat) : Nat → Nat → Nat
 | 0, k => k
 | i + 1, k => nx f (it f i k)
theorem it_succ (f : List Nat) (i k : Nat) : it f (i + 1) k = nx f (it f i k) := rfl
theorem it_one (f : List Nat) (k : Nat) : it f 1 k = nx f k := rfl
theorem it_add (f : List Nat) (k : Nat) : ∀ i j, it f (i + j) k = it f i (it f j k)
 | 0, j => by simp [it]
 | i + 1, j => by rw [show i + 1 + j = (i + j) + 1 by omega, it_succ, it_add f k i j, it_succ]
theorem it_lt {f : List Nat} (hf : MapN f) {k : Nat} (hk : k < f.length) : ∀ i, it f i k < f.length
 | 0 => hk
 | i + 1 => hf.has _ (it_lt hf hk i)
theorem it_mul {f : List Nat} {k p : Nat} (h : it f p k = k) : ∀ q, it f (q * p) k = k
 | 0 => by simp [it]
 | q + 1 => by rw [Nat.succ_mul, it_add, h, it_mul h q]
def orb (f : List Nat) (k i : Nat) : List Nat := (List.range i).map (fun j => it f j k)
theorem orb_len (f : List Nat) (k i : Nat) : (orb f k i).length = i := by simp [orb]
theorem orb_succ (f : List Nat) (k i : Nat) : orb f k (i + 1) = orb f k i ++ [it f i k] := by simp [orb, List.range_succ]
theorem mem_orb {f : List Nat} {k i x : Nat} : x ∈ orb f k i ↔ ∃ j, j < i ∧ it f j k = x := by simp [orb]
theorem orb_get {f : List Nat} {k i j : Nat} (h : j < (orb f k i).length) : (orb f k i)[j] = it f j k := by simp [orb]
theorem orb_nodup_succ {f : List Nat} {k i : Nat} (h : (orb f k i).Nodup) (hn : it f i k ∉ orb f k i) : (orb f k (i + 1)).Nodup := by
 rw [orb_succ, List.nodup_append]
 refine ⟨h, by simp, fun a ha b hb e => ?_⟩
 simp at hb
 subst hb e
 exact hn ha
theorem orb_le {f : List Nat} (hf : MapN f) {k i : Nat} (hk : k < f.length) (h : (orb f k i).Nodup) : i ≤ f.length := by
 have := nodup_le f.length _ h (fun x hx => by
  obtain ⟨j, _, rfl⟩ := mem_orb.1 hx
  exact it_lt hf hk j)
 rwa [orb_len] at this
theorem orb_inj {f : List Nat} {k i a b : Nat} (h : (orb f k i).Nodup) (ha : a < i) (hb : b < i) (e : it f a k = it f b k) : a = b := by
 have la : a < (orb f k i).length := by rw [orb_len]; exact ha
 have lb : b < (orb f k i).length := by rw [orb_len]; exact hb
 exact (List.getElem_inj (h₀ := la) (h₁ := lb) h).1 (by rw [orb_get, orb_get, e])
structure IsWay (f : List Nat) (k L : Nat) : Prop where
 pos : 1 ≤ L
 nodup : (orb f k L).Nodup
 back : it f L k ∈ orb f k L
theorem isWay_unique {f : List Nat} {k L L' : Nat} (h : IsWay f k L) (h' : IsWay f k L') : L = L' := by
 have aux : ∀ {L L' : Nat}, IsWay f k L → IsWay f k L' → L < L' → False := fun {L L'} h h' hlt => by
  obtain ⟨j, hj, e⟩ := mem_orb.1 h.back
  have := orb_inj h'.nodup (a := j) (b := L) (by omega) hlt e
  omega
 rcases Nat.lt_trichotomy L L' with h1 | h1 | h1
 · exact (aux h h' h1).elim
 · exact h1
 · exact (aux h' h h1).elim
def wlGo (f : List Nat) (k : Nat) : Nat → Nat → Nat
 | 0, i => i
 | n + 1, i => if it f i k ∈ orb f k i then i else wlGo f k n (i + 1)
def wl (f : List Nat) (k : Nat) : Nat := wlGo f k f.length 1
theorem wlGo_isWay {f : List Nat} (hf : MapN f) {k : Nat} (hk : k < f.length) : ∀ n i, 1 ≤ i → (orb f k i).Nodup → f.length + 1 ≤ n + i → IsWay f k (wlGo f k n i)
 | 0, i, h1, hd, hn => by
  have := orb_le hf hk hd
  omega
 | n + 1, i, h1, hd, hn => by
  unfold wlGo
  split
  · rename_i h; exact ⟨h1, hd, h⟩
  · rename_i h; exact wlGo_isWay hf hk n (i + 1) (by omega) (orb_nodup_succ hd h) (by omega)
theorem wl_isWay {f : List Nat} (hf : MapN f) {k : Nat} (hk : k < f.length) : IsWay f k (wl f k) :=
 wlGo_isWay hf hk _ _ (Nat.le_refl _) (by simp [orb]) (by omega)
theorem wl_le {f : List Nat} (hf : MapN f) {k : Nat} (hk : k < f.length) : wl f k ≤ f.length := orb_le hf hk (wl_isWay hf hk).nodup
def way (f : List Nat) (k : Nat) : List Nat := orb f k (wl f k)
def tlGo (f : List Nat) (k : Nat) : Nat → Nat → Nat
 | 0, t => t
 | n + 1, t => if it f t k = it f (wl f k) k then t else tlGo f k n (t + 1)
def tl (f : List Nat) (k : Nat) : Nat := tlGo f k (wl f k) 0
theorem tlGo_is {f : List Nat} {k T : Nat} (hT : it f T k = it f (wl f k) k) (hu : ∀ j, j < T → it f j k ≠ it f (wl f k) k) : ∀ n t, t ≤ T → T ≤ n + t → tlGo f k n t = T
 | 0, t, h1, h2 => by unfold tlGo; omega
 | n + 1, t, h1, h2 => by
  unfold tlGo
  split
  · rename_i h
    rcases Nat.lt_or_ge t T with h3 | h3
    · exact absurd h (hu t h3)
    · omega
  · rename_i h
    have : t ≠ T := fun e => h (by rw [e]; exact hT)
    exact tlGo_is hT hu n (t + 1) (by omega) (by omega)
theorem tl_eq {f : List Nat} {k : Nat} (h : IsWay f k (wl f k)) {T : Nat} (hT : T < wl f k) (e : it f T k = it f (wl f k) k) : tl f k = T :=
 tlGo_is e (fun j hj he => by have := orb_inj h.nodup (a := j) (b := T) (by omega) hT (he.trans e.symm); omega) _ _ (by omega) (by omega)
theorem tl_is {f : List Nat} (hf : MapN f) {k : Nat} (hk : k < f.length) : tl f k < wl f k ∧ it f (tl f k) k = it f (wl f k) k := by
 have h := wl_isWay hf hk
 obtain ⟨j, hj, e⟩ := mem_orb.1 h.back
 have := tl_eq h hj e
 rw [this]; exact ⟨hj, e⟩
def ll (f : List Nat) (k : Nat) : Nat := wl f k - tl f k
theorem ll_pos {f : List Nat} (hf : MapN f) {k : Nat} (hk : k < f.length) : 1 ≤ ll f k := by have := (tl_is hf hk).1; unfold ll; omega
theorem it_round {f : List Nat} (hf : MapN f) {k : Nat} (hk : k < f.length) (i : Nat) (hi : tl f k ≤ i) : it f (i + ll f k) k = it f i k := by
 obtain ⟨h1, h2⟩ := tl_is hf hk
 have e1 : i + ll f k = (i - tl f k) + wl f k := by unfold ll; omega
 have e2 : i = (i - tl f k) + tl f k := by omega
 rw [e1, it_add, ← h2, ← it_add, ← e2]
theorem it_rounds {f : List Nat} (hf : MapN f) {k : Nat} (hk : k < f.length) (i : Nat) (hi : tl f k ≤ i) : ∀ q, it f (i + q * ll f k) k = it f i k
 | 0 => by simp
 | q + 1 => by
  rw [show i + (q + 1) * ll f k = (i + q * ll f k) + ll f k by rw [Nat.succ_mul]; omega, it_round hf hk _ (by omega), it_rounds hf hk i hi q]
theorem it_mod {f : List Nat} (hf : MapN f) {k : Nat} (hk : k < f.length) (i : Nat) (hi : tl f k ≤ i) : it f i k = it f (tl f k + (i - tl f k) % ll f k) k := by
 have h := it_rounds hf hk (tl f k + (i - tl f k) % ll f k) (by omega) ((i - tl f k) / ll f k)
 rw [← h]
 congr 1
 have := Nat.mod_add_div (i - tl f k) (ll f k)
 rw [Nat.mul_comm] at this
 omega
theorem it_mem_way {f : List Nat} (hf : MapN f) {k : Nat} (hk : k < f.length) (i : Nat) : it f i k ∈ way f k := by
 unfold way
 rcases Nat.lt_or_ge i (wl f k) with h | h
 · exact mem_orb.2 ⟨i, h, rfl⟩
 · have ht := (tl_is hf hk).1
   rw [it_mod hf hk i (by omega)]
   refine mem_orb.2 ⟨_, ?_, rfl⟩
   have := Nat.mod_lt (i - tl f k) (ll_pos hf hk)
   unfold ll at this ⊢
   omega
theorem mem_way {f : List Nat} (hf : MapN f) {k : Nat} (hk : k < f.length) {x : Nat} : x ∈ way f k ↔ ∃ i, it f i k = x := by
 constructor
 · intro h; obtain ⟨j, _, e⟩ := mem_orb.1 h; exact ⟨j, e⟩
 · rintro ⟨i, rfl⟩; exact it_mem_way hf hk i
def onL (f : List Nat) (k : Nat) : Bool := tl f k == 0
theorem onL_iff {f : List Nat} (hf : MapN f) {k : Nat} (hk : k < f.length) : onL f k = true ↔ ∃ p, 1 ≤ p ∧ it f p k = k := by
 unfold onL
 rw [beq_iff_eq]
 constructor
 · intro h
   refine ⟨ll f k, ll_pos hf hk, ?_⟩
   have := it_round hf hk 0 (by omega)
   simpa [it] using this
 · rintro ⟨p, hp, e⟩
   have h := wl_isWay hf hk
   obtain ⟨h1, h2⟩ := tl_is hf hk
   have hw : 1 ≤ wl f k := h.pos
   refine tl_eq h (by omega) ?_
   -- it wl = it (tl) ; and it (q*p) k = k for each q: take q so large that q * p is behind the tail
   have hq := it_mul e (wl f k)
   have hge : tl f k ≤ wl f k * p := by
    have : wl f k * 1 ≤ wl f k * p := Nat.mul_le_mul_left _ hp
    omega
   rw [it_mod hf hk _ hge] at hq
   have hlt := Nat.mod_lt (wl f k * p - tl f k) (ll_pos hf hk)
   have h0 : tl f k + (wl f k * p - tl f k) % ll f k = 0 := by
    refine orb_inj h.nodup (a := _) (b := 0) ?_ (by omega) (by rw [hq]; rfl)
    unfold ll at hlt ⊢; omega
   have : tl f k = 0 := by omega
   rw [← h2, this]
theorem onL_it {f : List Nat} (hf : MapN f) {k : Nat} (hk : k < f.length) (i : Nat) (hi : tl f k ≤ i) : onL f (it f i k) = true := by
 rw [onL_iff hf (it_lt hf hk i)]
 refine ⟨ll f k, ll_pos hf hk, ?_⟩
 rw [← it_add, Nat.add_comm, it_round hf hk i hi]
theorem tl_lt {f : List Nat} (hf : MapN f) {k : Nat} (hk : k < f.length) : tl f k < f.length := by
 have := (tl_is hf hk).1; have := wl_le hf hk; omega
theorem onL_far {f : List Nat} (hf : MapN f) {k : Nat} (hk : k < f.length) (i : Nat) (hi : f.length ≤ i + 1) : onL f (it f i k) = true :=
 onL_it hf hk i (by have := tl_lt hf hk; omega)
end
section
def sub (a b : Nat) : Prop := ∀ j, a.testBit j = true → b.testBit j = true
theorem sub_antisymm {a b : Nat} (h : sub a b) (k : sub b a) : a = b := by
 apply Nat.eq_of_testBit_eq
 intro j
 rw [Bool.eq_iff_iff]
 exact ⟨h j, k j⟩
theorem sub_and {a b : Nat} : sub a b ↔ a &&& b = a := by
 constructor
 · intro h
   apply Nat.eq_of_testBit_eq
   intro j
   rw [Nat.testBit_and]
   rcases e : a.testBit j with _ | _
   · rfl
   · rw [h j e]; rfl
 · intro h j hj
   have := congrArg (fun x => Nat.testBit x j) h
   simp only [Nat.testBit_and, hj, Bool.true_and] at this
   exact this
theorem sub_le {a b : Nat} (h : sub a b) : a ≤ b := by
 have := sub_and.1 h
 rw [← this]; exact Nat.and_le_right
theorem or_bit (a b j : Nat) : (a ||| b).testBit j = true ↔ a.testBit j = true ∨ b.testBit j = true := by rw [Nat.testBit_or, Bool.or_eq_true]
theorem sub_or_left (a b : Nat) : sub a (a ||| b) := fun j h => (or_bit a b j).2 (.inl h)
def setK (p : Nat → Bool) : Nat → Nat
 | 0 => 0
 | k + 1 => if p k then setK p k ||| 2 ^ k else setK p k
theorem setK_bit (p : Nat → Bool) (j : Nat) : ∀ k, (setK p k).testBit j = true ↔ j < k ∧ p j = true
 | 0 => by simp [setK]
 | k + 1 => by
  have ih := setK_bit p j k
  unfold setK
  split
  · rename_i h
    rw [or_bit, ih, testBit_two, decide_eq_true_eq]
    constructor
    · rintro (⟨hi, hb⟩ | e)
      · exact ⟨by omega, hb⟩
      · subst e; exact ⟨by omega, h⟩
    · rintro ⟨hi, hb⟩
      by_cases hik : k = j
      · exact .inr hik
      · exact .inl ⟨by omega, hb⟩
  · rename_i h
    rw [ih]
    constructor
    · rintro ⟨hi, hb⟩; exact ⟨by omega, hb⟩
    · rintro ⟨hi, hb⟩
      by_cases hik : j = k
      · subst hik; exact absurd hb h
      · exact ⟨by omega, hb⟩
def aroundN (f : List Nat) (m : Nat) : Nat := setK (fun j => (List.range f.length).any (fun k => m.testBit k && (way f k).contains j)) f.length
theorem aroundN_bit {f : List Nat} (hf : MapN f) {m j : Nat} : (aroundN f m).testBit j = true ↔ ∃ k i, k < f.length ∧ m.testBit k = true ∧ it f i k = j := by
 unfold aroundN
 rw [setK_bit]
 simp only [List.any_eq_true, List.mem_range, Bool.and_eq_true, List.contains_iff_mem]
 constructor
 · rintro ⟨_, k, hk, hb, hx⟩
   obtain ⟨i, e⟩ := (mem_way hf hk).1 hx
   exact ⟨k, i, hk, hb, e⟩
 · rintro ⟨k, i, hk, hb, rfl⟩
   exact ⟨it_lt hf hk i, k, hk, hb, it_mem_way hf hk i⟩
def limitN (f : List Nat) : Nat := setK (onL f) f.length
theorem limitN_bit {f : List Nat} {j : Nat} : (limitN f).testBit j = true ↔ j < f.length ∧ onL f j = true := setK_bit _ _ _
theorem limitN_of {f : List Nat} (hf : MapN f) {m : Nat} (hm : m < 2 ^ f.length) (he : led f m = m) (hs : sub (limitN f) m) : m = limitN f := by
 apply sub_antisymm _ hs
 have back : ∀ i j, m.testBit j = true → ∃ y, y < f.length ∧ m.testBit y = true ∧ it f i y = j := by
  intro i
  induction i with
  | zero => intro j hj; exact ⟨j, bit_lt hm hj, hj, rfl⟩
  | succ i ih =>
   intro j hj
   rw [← he] at hj
   obtain ⟨y, hy, hb, e⟩ := (led_bit f m j).1 hj
   obtain ⟨z, hz, hzb, e2⟩ := ih y hb
   exact ⟨z, hz, hzb, by rw [it_succ, e2, e]⟩
 intro j hj
 obtain ⟨y, hy, _, rfl⟩ := back f.length j hj
 exact limitN_bit.2 ⟨it_lt hf hy _, onL_far hf hy _ (by omega)⟩
end
section
def seenK (f : List Nat) (k : Nat) : Nat → Nat
 | 0 => 0
 | i + 1 => seenK f k i ||| 2 ^ it f i k
theorem seenK_bit (f : List Nat) (k x : Nat) : ∀ i, (seenK f k i).testBit x = true ↔ x ∈ orb f k i
 | 0 => by simp [seenK, orb]
 | i + 1 => by
  rw [seenK, or_bit, seenK_bit f k x i, orb_succ, testBit_two, decide_eq_true_eq, List.mem_append, List.mem_singleton]
  constructor
  · rintro (h | h)
    · exact .inl h
    · exact .inr h.symm
  · rintro (h | h)
    · exact .inl h
    · exact .inr h.symm
theorem seenK_lt {f : List Nat} (hf : MapN f) {k : Nat} (hk : k < f.length) (i : Nat) : seenK f k i < 2 ^ f.length :=
 lt_two_of_bits (fun j hj => by
  obtain ⟨a, _, rfl⟩ := mem_orb.1 ((seenK_bit f k j i).1 hj)
  exact it_lt hf hk a)
theorem seenK_grow {f : List Nat} {k i : Nat} (h : it f i k ∉ orb f k i) : seenK f k i < seenK f k (i + 1) := by
 have h1 : sub (seenK f k i) (seenK f k (i + 1)) := sub_or_left _ _
 have h2 := sub_le h1
 rcases Nat.lt_or_ge (seenK f k i) (seenK f k (i + 1)) with h3 | h3
 · exact h3
 · exfalso
   have e : seenK f k i = seenK f k (i + 1) := by omega
   apply h
   rw [← seenK_bit, e, seenK_bit, orb_succ]
   simp
theorem way_done {f : List Nat} (hf : MapN f) {k i : Nat} (hk : k < f.length) (h1 : 1 ≤ i) (hd : (orb f k i).Nodup) (hb : it f i k ∈ orb f k i) : i = wl f k :=
 isWay_unique ⟨h1, hd, hb⟩ (wl_isWay hf hk)
theorem ints_append (a b : List Nat) : ints (a ++ b) = ints a ++ ints b := by simp [ints]
theorem ints_single (a : Nat) : ints [a] = [(a : Int)] := rfl
theorem ints_orb_succ (f : List Nat) (k i : Nat) : ints (orb f k (i + 1)) = ints (orb f k i) ++ [(it f i k : Int)] := by rw [orb_succ, ints_append, ints_single]
end
section
theorem nodup_len_le {α : Type} [DecidableEq α] : ∀ (l m : List α), l.Nodup → (∀ x ∈ l, x ∈ m) → l.length ≤ m.length
 | [], m, _, _ => by simp
 | a :: l, m, hd, h => by
  have hd' := List.nodup_cons.1 hd
  have ha : a ∈ m := h a (by simp)
  have := nodup_len_le l (m.erase a) hd'.2 (fun x hx => by
   have hne : x ≠ a := fun e => hd'.1 (by rw [← e]; exact hx)
   exact (List.mem_erase_of_ne hne).2 (h x (List.mem_cons_of_mem _ hx)))
  rw [List.length_erase_of_mem ha] at this
  have hpos : 0 < m.length := List.length_pos_of_mem ha
  simp only [List.length_cons]; omega
structure CodeN (c : List Nat) : Prop where
 le6 : c.length ≤ 6
 has : ∀ x ∈ c, x ≤ c.length
def rt (c : List Nat) : Nat := if c.length = 0 then 0 else nx c (c.length - 1)
theorem rt_le {c : List Nat} (hc : CodeN c) : rt c ≤ c.length := by
 unfold rt
 split
 · omega
 · rw [nx_get (by omega)]; exact hc.has _ (List.getElem_mem _)
theorem nx_mem_drop {c : List Nat} {a : Nat} (h : a < c.length) : nx c a ∈ c.drop a := by
 rw [nx_get h]; exact List.mem_drop_iff_getElem.2 ⟨0, by omega, by simp⟩
theorem nx_le {c : List Nat} (hc : CodeN c) {a : Nat} (h : a < c.length) : nx c a ≤ c.length := by
 rw [nx_get h]; exact hc.has _ (List.getElem_mem _)
theorem drop_succ_eq {c : List Nat} {a : Nat} (h : a < c.length) : c.drop a = nx c a :: c.drop (a + 1) := by
 rw [nx_get h, List.drop_eq_getElem_cons h]
theorem rt_mem_drop {c : List Nat} {a : Nat} (h : a < c.length) : rt c ∈ c.drop a := by
 unfold rt
 rw [if_neg (by omega), nx_get (by omega)]
 exact List.mem_drop_iff_getElem.2 ⟨c.length - 1 - a, by omega, by congr 1; omega⟩
def freeC (c G : List Nat) (a k : Nat) : Bool := k != rt c && !G.contains k && !(c.drop a).contains k
theorem freeC_iff {c G : List Nat} {a k : Nat} : freeC c G a k = true ↔ k ≠ rt c ∧ k ∉ G ∧ k ∉ c.drop a := by
 unfold freeC
 simp [and_assoc]
def minF (c G : List Nat) (a : Nat) : Nat := ((List.range (c.length + 1)).find? (freeC c G a)).getD 0
def lfs (c : List Nat) : Nat → List Nat
 | 0 => []
 | a + 1 => lfs c a ++ [minF c (lfs c a) a]
def lf (c : List Nat) (a : Nat) : Nat := minF c (lfs c a) a
theorem lfs_succ (c : List Nat) (a : Nat) : lfs c (a + 1) = lfs c a ++ [lf c a] := rfl
theorem lfs_len (c : List Nat) : ∀ a, (lfs c a).length = a
 | 0 => rfl
 | a + 1 => by rw [lfs_succ, List.length_append, lfs_len c a]; rfl
theorem minF_is {c G : List Nat} {a k : Nat} (hk : k ≤ c.length) (h : freeC c G a k = true) (hmin : ∀ j, j < k → freeC c G a j = false) : minF c G a = k := by
 unfold minF
 have : (List.range (c.length + 1)).find? (freeC c G a) = some k := by
  rw [List.find?_range_eq_some]
  refine ⟨h, by simp; omega, fun j hj => by rw [hmin j hj]; rfl⟩
 rw [this]; rfl
theorem minF_free {c G : List Nat} {a : Nat} (h : ∃ k, k ≤ c.length ∧ freeC c G a k = true) : minF c G a ≤ c.length ∧ freeC c G a (minF c G a) = true ∧ ∀ j, j < minF c G a → freeC c G a j = false := by
 unfold minF
 rcases e : (List.range (c.length + 1)).find? (freeC c G a) with _ | k
 · obtain ⟨k, hk, hf⟩ := h
   have := List.find?_eq_none.1 e k (by simp; omega)
   rw [hf] at this; simp at this
 · rw [List.find?_range_eq_some] at e
   obtain ⟨h1, h2, h3⟩ := e
   refine ⟨by simp at h2; simp; omega, h1, fun j hj => ?_⟩
   have := h3 j hj
   simpa using this
structure Lvs (c : List Nat) (a : Nat) : Prop where
 nodup : (lfs c a).Nodup
 le : ∀ x ∈ lfs c a, x ≤ c.length
 root : rt c ∉ lfs c a
 past : ∀ x ∈ lfs c a, x ∉ c.drop a
theorem range_erase_root {c : List Nat} (hc : CodeN c) : ((List.range (c.length + 1)).erase (rt c)).length = c.length ∧ ((List.range (c.length + 1)).erase (rt c)).Nodup := by
 have h := rt_le hc
 refine ⟨?_, List.nodup_range.erase _⟩
 rw [List.length_erase_of_mem (by simp; omega), List.length_range]; omega
theorem free_ex {c : List Nat} (hc : CodeN c) {a : Nat} (ha : a < c.length) (hl : Lvs c a) : ∃ k, k ≤ c.length ∧ freeC c (lfs c a) a k = true := by
 apply Classical.byContradiction
 intro hno
 obtain ⟨h1, h2⟩ := range_erase_root hc
 have hm := nodup_len_le _ (lfs c a ++ (c.drop a).erase (rt c)) h2 (fun x hx => by
  have hx2 := h2
  have hxr : x ≠ rt c := ((List.nodup_range (n := c.length + 1)).mem_erase_iff.1 hx).1
  have hxn : x ≤ c.length := by have := List.mem_of_mem_erase hx; simp at this; omega
  apply Classical.byContradiction
  intro hn
  apply hno
  refine ⟨x, hxn, freeC_iff.2 ⟨hxr, fun hg => hn (by simp [hg]), fun hd => hn ?_⟩⟩
  rw [List.mem_append]
  exact .inr ((List.mem_erase_of_ne hxr).2 hd))
 rw [h1, List.length_append, lfs_len, List.length_erase_of_mem (rt_mem_drop ha), List.length_drop] at hm
 omega
theorem Lvs.zero (c : List Nat) : Lvs c 0 := ⟨by simp [lfs], by simp [lfs], by simp [lfs], by simp [lfs]⟩
theorem Lvs.free {c : List Nat} (hc : CodeN c) {a : Nat} (ha : a < c.length) (hl : Lvs c a) : lf c a ≤ c.length ∧ freeC c (lfs c a) a (lf c a) = true ∧ ∀ j, j < lf c a → freeC c (lfs c a) a j = false := minF_free (free_ex hc ha hl)
theorem Lvs.next {c : List Nat} (hc : CodeN c) {a : Nat} (ha : a < c.length) (hl : Lvs c a) : Lvs c (a + 1) := by
 obtain ⟨h1, h2, _⟩ := hl.free hc ha
 obtain ⟨f1, f2, f3⟩ := freeC_iff.1 h2
 have hd := drop_succ_eq ha
 refine ⟨?_, ?_, ?_, ?_⟩
 · rw [lfs_succ, List.nodup_append]
   refine ⟨hl.nodup, by simp, fun x hx y hy e => ?_⟩
   simp at hy; subst hy e; exact f2 hx
 · intro x hx
   rw [lfs_succ, List.mem_append, List.mem_singleton] at hx
   rcases hx with hx | rfl
   · exact hl.le x hx
   · exact h1
 · rw [lfs_succ, List.mem_append, List.mem_singleton]
   rintro (hx | e)
   · exact hl.root hx
   · exact f1 e.symm
 · intro x hx hm
   rw [lfs_succ, List.mem_append, List.mem_singleton] at hx
   have hm' : x ∈ c.drop a := by rw [hd]; exact List.mem_cons_of_mem _ hm
   rcases hx with hx | rfl
   · exact hl.past x hx hm'
   · exact f3 hm'
theorem lvs {c : List Nat} (hc : CodeN c) : ∀ a, a ≤ c.length → Lvs c a
 | 0, _ => Lvs.zero c
 | a + 1, h => (lvs hc a (by omega)).next hc (by omega)
theorem free_lt {c : List Nat} (hc : CodeN c) {a k : Nat} (ha : a ≤ c.length) (hk : k ≤ c.length) (h : freeC c (lfs c a) a k = true) : a < c.length := by
 rcases Nat.lt_or_ge a c.length with h' | h'
 · exact h'
 · exfalso
   obtain rfl : a = c.length := by omega
   have hl := lvs hc c.length (Nat.le_refl _)
   obtain ⟨f1, f2, _⟩ := freeC_iff.1 h
   have := nodup_len_le (k :: rt c :: lfs c c.length) (List.range (c.length + 1)) (by
    rw [List.nodup_cons, List.nodup_cons]
    refine ⟨by simp [f1, f2], hl.root, hl.nodup⟩) (fun x hx => by
     simp only [List.mem_cons] at hx
     rw [List.mem_range]
     rcases hx with rfl | rfl | hx
     · omega
     · have := rt_le hc; omega
     · have := hl.le x hx; omega)
   simp [lfs_len] at this
   omega
theorem lvs_all {c : List Nat} (hc : CodeN c) {k : Nat} (hk : k ≤ c.length) (hr : k ≠ rt c) : k ∈ lfs c c.length := by
 apply Classical.byContradiction
 intro hn
 have := free_lt hc (Nat.le_refl _) hk (freeC_iff.2 ⟨hr, hn, by simp⟩)
 omega
def treeK (c : List Nat) : Nat → List Nat
 | 0 => (List.replicate (c.length + 1) 0).set (rt c) (rt c)
 | a + 1 => (treeK c a).set (lf c a) (nx c a)
def treeN (c : List Nat) : List Nat := treeK c c.length
theorem treeK_len (c : List Nat) : ∀ a, (treeK c a).length = c.length + 1
 | 0 => by simp [treeK]
 | a + 1 => by rw [treeK, List.length_set, treeK_len c a]
structure Ptr (c : List Nat) (a i leaf : Nat) : Prop where
 le : leaf ≤ i
 none : ∀ j, j ≤ i → j ≠ leaf → freeC c (lfs c a) a j = false
 here : leaf = i ∨ i ∈ lfs c a
theorem Ptr.start {c : List Nat} {a i : Nat} (h : ∀ j, j < i → freeC c (lfs c a) a j = false) : Ptr c a i i :=
 ⟨Nat.le_refl _, fun j hj hne => h j (by omega), .inl rfl⟩
theorem Ptr.stop {c : List Nat} {a i leaf : Nat} (h : Ptr c a i leaf) (hn : freeC c (lfs c a) a leaf = false) : ∀ j, j < i + 1 → freeC c (lfs c a) a j = false := fun j hj => by
 by_cases e : j = leaf
 · rw [e]; exact hn
 · exact h.none j (by omega) e
theorem Ptr.leaf_is {c : List Nat} {a i leaf : Nat} (h : Ptr c a i leaf) (hi : i ≤ c.length) (hf : freeC c (lfs c a) a leaf = true) : lf c a = leaf :=
 minF_is (by have := h.le; omega) hf (fun j hj => h.none j (by have := h.le; omega) (by omega))
theorem free_next {c : List Nat} {a j : Nat} (ha : a < c.length) (hf : freeC c (lfs c (a + 1)) (a + 1) j = true) (hne : j ≠ nx c a) : freeC c (lfs c a) a j = true := by
 obtain ⟨f1, f2, f3⟩ := freeC_iff.1 hf
 refine freeC_iff.2 ⟨f1, fun h => f2 (by rw [lfs_succ]; simp [h]), fun h => ?_⟩
 rw [drop_succ_eq ha, List.mem_cons] at h
 rcases h with e | h
 · exact hne e
 · exact f3 h
theorem Ptr.taken {c : List Nat} (hc : CodeN c) {a i leaf : Nat} (h : Ptr c a i leaf) (hi : i ≤ c.length) (ha : a < c.length) (hf : freeC c (lfs c a) a leaf = true) : ∀ j, j ≤ i → j ≠ nx c a → freeC c (lfs c (a + 1)) (a + 1) j = false := fun j hj hne => by
 rcases e : freeC c (lfs c (a + 1)) (a + 1) j with _ | _
 · rfl
 · exfalso
   have hj2 := free_next ha e hne
   by_cases e2 : j = leaf
   · have := (freeC_iff.1 e).2.1
     rw [lfs_succ, h.leaf_is hi hf, e2] at this
     simp at this
   · have := h.none j hj e2
     rw [hj2] at this; cases this
theorem Ptr.gone {c : List Nat} {a i leaf : Nat} (h : Ptr c a i leaf) (hi : i ≤ c.length) (hf : freeC c (lfs c a) a leaf = true) : i ∈ lfs c (a + 1) := by
 rw [lfs_succ, List.mem_append, List.mem_singleton, h.leaf_is hi hf]
 rcases h.here with e | e
 · exact .inr e.symm
 · exact .inl e
theorem Ptr.to_ne {c : List Nat} (hc : CodeN c) {a i leaf : Nat} (h : Ptr c a i leaf) (hi : i ≤ c.length) (ha : a < c.length) (hf : freeC c (lfs c a) a leaf = true) : nx c a ∉ lfs c (a + 1) := by
 intro hm
 rw [lfs_succ, List.mem_append, List.mem_singleton] at hm
 rcases hm with hm | e
 · exact (lvs hc a (by omega)).past _ hm (nx_mem_drop ha)
 · rw [h.leaf_is hi hf] at e
   have := (freeC_iff.1 hf).2.2
   rw [← e] at this
   exact this (nx_mem_drop ha)
theorem Ptr.again {c : List Nat} (hc : CodeN c) {a i leaf : Nat} (h : Ptr c a i leaf) (hi : i ≤ c.length) (ha : a < c.length) (hf : freeC c (lfs c a) a leaf = true) (hlt : nx c a < i) : Ptr c (a + 1) i (nx c a) :=
 ⟨by omega, fun j hj hne => h.taken hc hi ha hf j hj hne, .inr (h.gone hi hf)⟩
theorem Ptr.onward {c : List Nat} (hc : CodeN c) {a i leaf : Nat} (h : Ptr c a i leaf) (hi : i ≤ c.length) (ha : a < c.length) (hf : freeC c (lfs c a) a leaf = true) (hge : i ≤ nx c a) : ∀ j, j < i + 1 → freeC c (lfs c (a + 1)) (a + 1) j = false := fun j hj => by
 refine h.taken hc hi ha hf j (by omega) (fun e => ?_)
 have e2 : nx c a = i := by omega
 exact h.to_ne hc hi ha hf (by rw [e2]; exact h.gone hi hf)
theorem Ptr.end_ {c : List Nat} (hc : CodeN c) {a : Nat} (ha : a ≤ c.length) (h : ∀ j, j < c.length + 1 → freeC c (lfs c a) a j = false) : a = c.length := by
 rcases Nat.lt_or_ge a c.length with h' | h'
 · obtain ⟨k, hk, hf⟩ := free_ex hc h' (lvs hc a ha)
   rw [h k (by omega)] at hf; cases hf
 · omega
def leftI (c : List Nat) (a : Nat) : List Int := (List.range (c.length + 1)).map (fun k => if k ∈ lfs c a then -1 else ((c.drop a).count k : Int))
theorem leftI_len (c : List Nat) (a : Nat) : (leftI c a).length = c.length + 1 := by simp [leftI]
theorem gI_leftI {c : List Nat} {a k : Nat} (hk : k ≤ c.length) : gI (leftI c a) k = if k ∈ lfs c a then -1 else ((c.drop a).count k : Int) := by
 rw [gI_get (by rw [leftI_len]; omega)]; simp [leftI]
theorem leftI_zero_iff {c : List Nat} {a k : Nat} (hk : k ≤ c.length) : gI (leftI c a) k = 0 ↔ k ∉ lfs c a ∧ k ∉ c.drop a := by
 rw [gI_leftI hk]
 split
 · rename_i h; simp [h]
 · rename_i h
   rw [← List.count_eq_zero (a := k) (l := c.drop a)]
   simp only [h, not_false_eq_true, true_and]; omega
theorem leftI_free {c : List Nat} {a k : Nat} (hk : k ≤ c.length) : freeC c (lfs c a) a k = true ↔ k ≠ rt c ∧ gI (leftI c a) k = 0 := by
 rw [freeC_iff, leftI_zero_iff hk]
theorem leftI_next {c : List Nat} (hc : CodeN c) {a i leaf : Nat} (h : Ptr c a i leaf) (hi : i ≤ c.length) (ha : a < c.length) (hf : freeC c (lfs c a) a leaf = true) :
    ((leftI c a).set leaf (-1)).set (nx c a) (gI ((leftI c a).set leaf (-1)) (nx c a) - 1) = leftI c (a + 1) := by
 have hto := h.to_ne hc hi ha hf
 have hle : leaf ≤ c.length := by have := h.le; omega
 have hnl := nx_le hc ha
 have hne : nx c a ≠ leaf := fun e => hto (by rw [e, lfs_succ, h.leaf_is hi hf]; simp)
 have hto1 : nx c a ∉ lfs c a := fun hm => hto (by rw [lfs_succ]; simp [hm])
 have hg : gI ((leftI c a).set leaf (-1)) (nx c a) = ((c.drop a).count (nx c a) : Int) := by
  unfold gI
  simp only [List.getD]
  rw [List.getElem?_set_ne (by omega)]
  have := gI_leftI (a := a) hnl
  rw [if_neg hto1] at this
  simpa [gI, List.getD] using this
 rw [hg]
 apply List.ext_getElem (by simp [leftI_len])
 intro k h1 h2
 rw [leftI_len] at h2
 rw [List.getElem_set]
 have hR : (leftI c (a + 1))[k] = if k ∈ lfs c (a + 1) then -1 else ((c.drop (a + 1)).count k : Int) := by simp [leftI]
 rw [hR]
 split
 · rename_i e
   subst e
   rw [if_neg hto, drop_succ_eq ha, List.count_cons_self]; omega
 · rename_i e
   rw [List.getElem_set]
   split
   · rename_i e2
     subst e2
     rw [if_pos (by rw [lfs_succ, h.leaf_is hi hf]; simp)]
   · rename_i e2
     have hL : (leftI c a)[k]'(by rw [leftI_len]; omega) = if k ∈ lfs c a then -1 else ((c.drop a).count k : Int) := by simp [leftI]
     rw [hL]
     have hiff : k ∈ lfs c (a + 1) ↔ k ∈ lfs c a := by
      rw [lfs_succ, List.mem_append, List.mem_singleton, h.leaf_is hi hf]
      constructor
      · rintro (h | h)
        · exact h
        · exact absurd h.symm e2
      · exact .inl
     rw [drop_succ_eq ha, List.count_cons_of_ne (by omega)]
     simp [hiff]
def gm (c : List Nat) : Nat → Nat
 | 0 => 0
 | a + 1 => gm c a ||| 2 ^ lf c a
theorem gm_bit (c : List Nat) (x : Nat) : ∀ a, (gm c a).testBit x = true ↔ x ∈ lfs c a
 | 0 => by simp [gm, lfs]
 | a + 1 => by
  rw [gm, or_bit, gm_bit c x a, lfs_succ, testBit_two, decide_eq_true_eq, List.mem_append, List.mem_singleton]
  constructor
  · rintro (h | h)
    · exact .inl h
    · exact .inr h.symm
  · rintro (h | h)
    · exact .inl h
    · exact .inr h.symm
theorem gm_lt {c : List Nat} (hc : CodeN c) {a : Nat} (ha : a ≤ c.length) : gm c a < 128 :=
 lt_two_of_bits (n := 7) (fun j hj => by
  have := (lvs hc a ha).le _ ((gm_bit c j a).1 hj)
  have := hc.le6; omega)
theorem mem_drop_nx {c : List Nat} {a k : Nat} : k ∈ c.drop a ↔ ∃ t, a ≤ t ∧ t < c.length ∧ nx c t = k := by
 rw [List.mem_drop_iff_getElem]
 constructor
 · rintro ⟨i, hi, e⟩
   exact ⟨a + i, by omega, by omega, by rw [nx_get (by omega)]; exact e⟩
 · rintro ⟨t, h1, h2, e⟩
   refine ⟨t - a, by omega, ?_⟩
   rw [nx_get h2] at e
   rw [← e]; congr 1; omega
def Fr (c : List Nat) (a k j : Nat) (b : Bool) : Prop := b = true ↔ (k ≠ rt c ∧ k ∉ lfs c a ∧ ∀ t, a ≤ t → t < j → nx c t ≠ k)
theorem Fr.drop {c : List Nat} {a k j : Nat} (ha : a ≤ j) (he : nx c j = k) : Fr c a k (j + 1) false := by
 unfold Fr
 constructor
 · intro h; cases h
 · rintro ⟨_, _, h3⟩; exact absurd he (h3 j ha (by omega))
def ctK (c : List Nat) (i : Nat) : List Nat := (List.range (c.length + 1)).map (fun k => (c.take i).count k)
theorem ctK_len (c : List Nat) (i : Nat) : (ctK c i).length = c.length + 1 := by simp [ctK]
theorem nx_ctK {c : List Nat} {i k : Nat} (hk : k ≤ c.length) : nx (ctK c i) k = (c.take i).count k := by
 rw [nx_get (by rw [ctK_len]; omega)]; simp [ctK]
theorem ctK_le {c : List Nat} {i k : Nat} (hk : k ≤ c.length) : nx (ctK c i) k ≤ c.length := by
 rw [nx_ctK hk]
 have h1 := List.count_le_length (a := k) (l := c.take i)
 have h2 : (c.take i).length ≤ c.length := by rw [List.length_take]; omega
 omega
theorem ints_set (f : List Nat) (k x : Nat) : ints (f.set k x) = (ints f).set k (x : Int) := by simp [ints, List.map_set]
theorem ints_replicate (n x : Nat) : ints (List.replicate n x) = List.replicate n (x : Int) := by simp [ints]
end
section
def turned (f : List Nat) : Bool := decide f.Nodup
theorem nodup_all {f : List Nat} (hf : MapN f) (hd : f.Nodup) {j : Nat} (hj : j < f.length) : j ∈ f := by
 apply Classical.byContradiction
 intro hn
 have := nodup_len_le f ((List.range f.length).erase j) hd (fun x hx => by
  obtain ⟨k, hk, rfl⟩ := List.mem_iff_getElem.1 hx
  have hlt := hf.has k hk
  rw [nx_get hk] at hlt
  exact (List.mem_erase_of_ne (fun e => hn (by rw [← e]; exact hx))).2 (by simpa using hlt))
 rw [List.length_erase_of_mem (by simpa using hj), List.length_range] at this
 omega
theorem all_nodup {f : List Nat} (h : ∀ j, j < f.length → j ∈ f) : f.Nodup := by
 refine List.pairwise_iff_getElem.2 ?_
 intro i k hi hk hik e2
 have hl := nodup_len_le (List.range f.length) (f.eraseIdx k) List.nodup_range (fun x hx => by
  have hm := h x (by simpa using hx)
  rw [List.mem_iff_getElem] at hm
  obtain ⟨a, ha, rfl⟩ := hm
  rw [List.mem_eraseIdx_iff_getElem]
  by_cases hak : a = k
  · subst hak
    exact ⟨i, hi, by omega, e2⟩
  · exact ⟨a, ha, hak, rfl⟩)
 rw [List.length_range, List.length_eraseIdx_of_lt hk] at hl
 omega
def backK (f : List Nat) : Nat → List Nat
 | 0 => List.replicate f.length 0
 | k + 1 => (backK f k).set (nx f k) k
def backN (f : List Nat) : List Nat := backK f f.length
theorem backK_len (f : List Nat) : ∀ k, (backK f k).length = f.length
 | 0 => by simp [backK]
 | k + 1 => by rw [backK, List.length_set, backK_len f k]
def metK (f : List Nat) : Nat → Nat
 | 0 => 0
 | k + 1 => metK f k ||| 2 ^ nx f k
theorem metK_bit (f : List Nat) (x : Nat) : ∀ k, (metK f k).testBit x = true ↔ ∃ i, i < k ∧ nx f i = x
 | 0 => by simp [metK]
 | k + 1 => by
  rw [metK, or_bit, metK_bit f x k, testBit_two, decide_eq_true_eq]
  constructor
  · rintro (⟨i, hi, e⟩ | e)
    · exact ⟨i, by omega, e⟩
    · exact ⟨k, by omega, e⟩
  · rintro ⟨i, hi, e⟩
    by_cases hik : i = k
    · subst hik; exact .inr e
    · exact .inl ⟨i, by omega, e⟩
theorem metK_lt {f : List Nat} (hf : MapN f) {k : Nat} (hk : k ≤ f.length) : metK f k < 128 :=
 lt_two_of_bits (n := 7) (fun j hj => by
  obtain ⟨i, hi, e⟩ := (metK_bit f j k).1 hj
  have := hf.has i (by omega); have := hf.le7; omega)
theorem turned_not {f : List Nat} {k : Nat} (hk : k < f.length) (h : (metK f k).testBit (nx f k) = true) : turned f = false := by
 unfold turned
 rw [decide_eq_false_iff_not]
 intro hd
 obtain ⟨i, hi, e⟩ := (metK_bit f _ k).1 h
 rw [nx_get (by omega), nx_get hk] at e
 have := (List.getElem_inj hd).1 e
 omega
theorem turned_yes {f : List Nat} (h : ∀ k, k < f.length → (metK f k).testBit (nx f k) = false) : turned f = true := by
 unfold turned
 rw [decide_eq_true_eq]
 refine List.pairwise_iff_getElem.2 ?_
 intro i k hi hk hik e2
 have := h k hk
 have hm : (metK f k).testBit (nx f k) = true := (metK_bit f _ k).2 ⟨i, hik, by rw [nx_get (by omega), nx_get hk]; exact e2⟩
 rw [hm] at this; cases this
end
section
def loGo (f : List Nat) (k : Nat) (a : Nat) : Nat → Nat
 | 0 => it f a k
 | n + 1 => min (loGo f k a n) (it f (a + n) k)
def lo (f : List Nat) (k : Nat) : Nat := loGo f k (tl f k) (ll f k)
theorem loGo_le (f : List Nat) (k a : Nat) : ∀ n i, i < n → loGo f k a n ≤ it f (a + i) k
 | n + 1, i, hi => by
  rw [loGo]
  rcases Nat.lt_or_ge i n with h | h
  · have := loGo_le f k a n i h; omega
  · obtain rfl : i = n := by omega
    omega
theorem loGo_mem (f : List Nat) (k a : Nat) : ∀ n, 1 ≤ n → ∃ i, i < n ∧ it f (a + i) k = loGo f k a n
 | 0, h => by omega
 | 1, _ => ⟨0, by omega, by simp [loGo]⟩
 | n + 2, _ => by
  obtain ⟨i, hi, e⟩ := loGo_mem f k a (n + 1) (by omega)
  rw [loGo]
  rcases Nat.le_total (loGo f k a (n + 1)) (it f (a + (n + 1)) k) with h | h
  · exact ⟨i, by omega, by rw [e]; omega⟩
  · exact ⟨n + 1, by omega, by omega⟩
theorem lo_le {f : List Nat} {k i : Nat} (h1 : tl f k ≤ i) (h2 : i < wl f k) : lo f k ≤ it f i k := by
 have := loGo_le f k (tl f k) (ll f k) (i - tl f k) (by unfold ll; omega)
 rwa [show tl f k + (i - tl f k) = i by omega] at this
theorem lo_mem {f : List Nat} (hf : MapN f) {k : Nat} (hk : k < f.length) : ∃ i, tl f k ≤ i ∧ i < wl f k ∧ it f i k = lo f k := by
 obtain ⟨i, hi, e⟩ := loGo_mem f k (tl f k) (ll f k) (ll_pos hf hk)
 exact ⟨tl f k + i, by omega, by unfold ll at hi; omega, e⟩
theorem lo_eq {f : List Nat} (hf : MapN f) {k r : Nat} (hk : k < f.length) (h : ∃ i, tl f k ≤ i ∧ i < wl f k ∧ it f i k = r) (hl : ∀ i, tl f k ≤ i → i < wl f k → r ≤ it f i k) : r = lo f k := by
 obtain ⟨i, h1, h2, e⟩ := h
 obtain ⟨j, g1, g2, e'⟩ := lo_mem hf hk
 have a := lo_le h1 h2
 have b := hl j g1 g2
 omega
theorem lo_lt {f : List Nat} (hf : MapN f) {k : Nat} (hk : k < f.length) : lo f k < f.length := by
 obtain ⟨i, _, _, e⟩ := lo_mem hf hk
 rw [← e]; exact it_lt hf hk i
theorem lo_on {f : List Nat} (hf : MapN f) {k : Nat} (hk : k < f.length) : onL f (lo f k) = true := by
 obtain ⟨i, h1, _, e⟩ := lo_mem hf hk
 rw [← e]; exact onL_it hf hk i h1
theorem onL_of_lo {f : List Nat} (hf : MapN f) {k : Nat} (hk : k < f.length) (h : lo f k = k) : onL f k = true := by
 have := lo_on hf hk
 rwa [h] at this
def loopsK (f : List Nat) : Nat → List (List Int)
 | 0 => []
 | k + 1 => if lo f k = k then loopsK f k ++ [ints (way f k)] else loopsK f k
theorem loopsK_len (f : List Nat) : ∀ k, (loopsK f k).length ≤ k
 | 0 => Nat.le_refl _
 | k + 1 => by
  have := loopsK_len f k
  unfold loopsK; split
  · rw [List.length_append]; simp; omega
  · omega
theorem loopsK_t {f : List Nat} {k : Nat} (h : lo f k = k) : loopsK f (k + 1) = loopsK f k ++ [ints (way f k)] := by rw [loopsK, if_pos h]
theorem loopsK_f {f : List Nat} {k : Nat} (h : ¬ lo f k = k) : loopsK f (k + 1) = loopsK f k := by rw [loopsK, if_neg h]
def loopsN (f : List Nat) : List (List Int) := loopsK f f.length
end
section
theorem lo_le_all {f : List Nat} (hf : MapN f) {k : Nat} (hk : k < f.length) {i : Nat} (h : tl f k ≤ i) : lo f k ≤ it f i k := by
 rw [it_mod hf hk i h]
 have h1 := ll_pos hf hk
 have h2 := Nat.mod_lt (i - tl f k) (show ll f k > 0 by omega)
 exact lo_le (by omega) (by unfold ll at h2 h1 ⊢; omega)
theorem lo_lo {f : List Nat} (hf : MapN f) {k : Nat} (hk : k < f.length) : lo f (lo f k) = lo f k := by
 obtain ⟨i, h1, h2, e⟩ := lo_mem hf hk
 have hr := lo_lt hf hk
 have ho := lo_on hf hk
 have hz : tl f (lo f k) = 0 := by simpa [onL] using ho
 refine (lo_eq hf hr ⟨0, by omega, (wl_isWay hf hr).pos, rfl⟩ (fun j g1 g2 => ?_)).symm
 have := lo_le_all hf hk (i := j + i) (by omega)
 rwa [it_add, e] at this
theorem loopsK_mem {f : List Nat} {k : Nat} (h : lo f k = k) : ∀ K, k < K → ints (way f k) ∈ loopsK f K
 | K + 1, hk => by
  rcases Nat.lt_or_ge k K with h1 | h1
  · have := loopsK_mem h K h1
    unfold loopsK; split
    · exact List.mem_append_left _ this
    · exact this
  · obtain rfl : k = K := by omega
    rw [loopsK_t h]; exact List.mem_append_right _ (List.mem_singleton.2 rfl)
theorem tree_root {f : List Nat} (hf : MapN f) (h1 : (loopsN f).length = 1) : (loopsN f).getD 0 [] = ints (way f (lo f 0)) := by
 have h0 := lo_lt hf (k := 0) hf.pos
 have hm := loopsK_mem (lo_lo hf (k := 0) hf.pos) f.length h0
 obtain ⟨x, hx⟩ := List.length_eq_one_iff.1 h1
 rw [show loopsK f f.length = loopsN f from rfl, hx] at hm
 rw [hx, List.mem_singleton.1 hm]; rfl
end
section
structure TreeN (f : List Nat) (r : Nat) : Prop where
 map : MapN f
 lt : r < f.length
 fix : nx f r = r
 to : ∀ k, k < f.length → ∃ i, it f i k = r
theorem it_fix {f : List Nat} {r : Nat} (h : nx f r = r) : ∀ i, it f i r = r
 | 0 => rfl
 | i + 1 => by rw [it_succ, it_fix h i, h]
theorem TreeN.on {f : List Nat} {r k : Nat} (h : TreeN f r) (hk : k < f.length) (ho : onL f k = true) : k = r := by
 obtain ⟨p, hp, e⟩ := (onL_iff h.map hk).1 ho
 obtain ⟨i, hi⟩ := h.to k hk
 have h1 := it_mul e i
 have hge : i ≤ i * p := Nat.le_mul_of_pos_right _ (by omega)
 have e2 : i * p = (i * p - i) + i := by omega
 rw [e2, it_add, hi, it_fix h.fix] at h1
 exact h1.symm
theorem TreeN.far {f : List Nat} {r k : Nat} (h : TreeN f r) (hk : k < f.length) {i : Nat} (hi : f.length ≤ i + 1) : it f i k = r :=
 h.on (it_lt h.map hk i) (onL_far h.map hk i hi)
theorem TreeN.moves {f : List Nat} {r k : Nat} (h : TreeN f r) (hk : k < f.length) (hr : k ≠ r) : nx f k ≠ k := fun e => by
 obtain ⟨i, hi⟩ := h.to k hk
 rw [it_fix e] at hi
 exact hr hi
theorem way_head {f : List Nat} (hf : MapN f) {k : Nat} (hk : k < f.length) : ∃ l, way f k = k :: l := by
 have hp := (wl_isWay hf hk).pos
 obtain ⟨m, hm⟩ : ∃ m, wl f k = m + 1 := ⟨wl f k - 1, by omega⟩
 refine ⟨(List.range m).map (fun j => it f (j + 1) k), ?_⟩
 unfold way orb
 rw [hm, List.range_succ_eq_map]
 simp [it, Function.comp_def]
theorem TreeN.lo {f : List Nat} {r k : Nat} (h : TreeN f r) (hk : k < f.length) : lo f k = r := h.on (lo_lt h.map hk) (lo_on h.map hk)
theorem TreeN.wl_root {f : List Nat} {r : Nat} (h : TreeN f r) : wl f r = 1 := by
 refine (isWay_unique (L := 1) ⟨Nat.le_refl _, by simp [orb], ?_⟩ (wl_isWay h.map h.lt)).symm
 rw [it_one, h.fix]; simp [orb, it]
theorem TreeN.way_root {f : List Nat} {r : Nat} (h : TreeN f r) : way f r = [r] := by unfold way; rw [h.wl_root]; simp [orb, it]
theorem TreeN.loopsK {f : List Nat} {r : Nat} (h : TreeN f r) : ∀ K, K ≤ f.length → loopsK f K = if r < K then [ints [r]] else []
 | 0, _ => by simp [Go.Proofs.YtoinlkdmfclnbaaGreatDoor.loopsK]
 | K + 1, hK => by
  have ih := h.loopsK K (by omega)
  have hl := h.lo (k := K) (by omega)
  by_cases e : K = r
  · subst e
    rw [loopsK_t hl, ih, if_neg (by omega), if_pos (by omega), h.way_root]; rfl
  · rw [loopsK_f (by omega), ih]
    by_cases h1 : r < K
    · rw [if_pos h1, if_pos (by omega)]
    · rw [if_neg h1, if_neg (by omega)]
theorem TreeN.loops {f : List Nat} {r : Nat} (h : TreeN f r) : loopsN f = [ints [r]] := by
 unfold loopsN; rw [h.loopsK _ (Nat.le_refl _), if_pos h.lt]
theorem treeN_of {f : List Nat} (hf : MapN f) (h1 : (loopsN f).length = 1) (h2 : ((loopsN f).getD 0 []).length = 1) : TreeN f (lo f 0) := by
 have h0 := lo_lt hf (k := 0) hf.pos
 have hr := tree_root hf h1
 rw [hr, ints_len, way, orb_len] at h2
 refine ⟨hf, h0, ?_, fun k hk => ?_⟩
 · have hb := (wl_isWay hf h0).back
   rw [h2, it_one] at hb
   simpa [orb, it] using hb
 · have hm := loopsK_mem (lo_lo hf hk) f.length (lo_lt hf hk)
   have hm0 := loopsK_mem (lo_lo hf (k := 0) hf.pos) f.length h0
   obtain ⟨x, hx⟩ := List.length_eq_one_iff.1 h1
   rw [show Go.Proofs.YtoinlkdmfclnbaaGreatDoor.loopsK f f.length = loopsN f from rfl, hx, List.mem_singleton] at hm hm0
   obtain ⟨l1, e1⟩ := way_head hf (lo_lt hf hk)
   obtain ⟨l2, e2⟩ := way_head hf h0
   have e3 : lo f k = lo f 0 := by
    have := hm.trans hm0.symm
    rw [e1, e2] at this
    simp [ints] at this
    have h1 := this.1
    omega
   obtain ⟨i, _, _, e⟩ := lo_mem hf hk
   exact ⟨i, by rw [e, e3]⟩
def freeT (f : List Nat) (r : Nat) (G : List Nat) (k : Nat) : Bool := k != r && !G.contains k && (List.range f.length).all (fun j => G.contains j || nx f j != k)
theorem freeT_iff {f : List Nat} {r : Nat} {G : List Nat} {k : Nat} : freeT f r G k = true ↔ k ≠ r ∧ k ∉ G ∧ ∀ j, j < f.length → j ∉ G → nx f j ≠ k := by
 unfold freeT
 rw [Bool.and_eq_true, Bool.and_eq_true, List.all_eq_true]
 simp only [bne_iff_ne, Bool.not_eq_true', List.mem_range, Bool.or_eq_true, and_assoc]
 constructor
 · rintro ⟨h1, h2, h3⟩
   refine ⟨h1, fun hm => by simp [hm] at h2, fun j hj hn e => ?_⟩
   rcases h3 j hj with h | h
   · exact hn (by simpa using h)
   · exact h e
 · rintro ⟨h1, h2, h3⟩
   refine ⟨h1, by simpa using h2, fun j hj => ?_⟩
   by_cases hm : j ∈ G
   · exact .inl (by simpa using hm)
   · exact .inr (h3 j hj hm)
def minT (f : List Nat) (r : Nat) (G : List Nat) : Nat := ((List.range f.length).find? (freeT f r G)).getD 0
def dgs (f : List Nat) (r : Nat) : Nat → List Nat
 | 0 => []
 | a + 1 => dgs f r a ++ [minT f r (dgs f r a)]
def dg (f : List Nat) (r a : Nat) : Nat := minT f r (dgs f r a)
theorem dgs_succ (f : List Nat) (r a : Nat) : dgs f r (a + 1) = dgs f r a ++ [dg f r a] := rfl
theorem dgs_len (f : List Nat) (r : Nat) : ∀ a, (dgs f r a).length = a
 | 0 => rfl
 | a + 1 => by rw [dgs_succ, List.length_append, dgs_len f r a]; rfl
theorem minT_free {f : List Nat} {r : Nat} {G : List Nat} (h : ∃ k, k < f.length ∧ freeT f r G k = true) : minT f r G < f.length ∧ freeT f r G (minT f r G) = true := by
 unfold minT
 rcases e : (List.range f.length).find? (freeT f r G) with _ | k
 · obtain ⟨k, hk, hf⟩ := h
   have := List.find?_eq_none.1 e k (by simpa using hk)
   rw [hf] at this; simp at this
 · rw [List.find?_range_eq_some] at e
   obtain ⟨h1, h2, _⟩ := e
   exact ⟨by simpa using h2, h1⟩
theorem TreeN.free_ex {f : List Nat} {r : Nat} (h : TreeN f r) {G : List Nat} (hl : ∃ k, k < f.length ∧ k ≠ r ∧ k ∉ G) : ∃ k, k < f.length ∧ freeT f r G k = true := by
 apply Classical.byContradiction
 intro hno
 have step : ∀ k, k < f.length → k ≠ r → k ∉ G → ∃ j, j < f.length ∧ j ≠ r ∧ j ∉ G ∧ nx f j = k := fun k hk hr hg => by
  apply Classical.byContradiction
  intro hn
  apply hno
  refine ⟨k, hk, freeT_iff.2 ⟨hr, hg, fun j hj hjg e => hn ⟨j, hj, fun ej => ?_, hjg, e⟩⟩⟩
  rw [ej, h.fix] at e
  exact hr e.symm
 have far : ∀ m k, k < f.length → k ≠ r → k ∉ G → ∃ j, j < f.length ∧ it f m j = k := fun m => by
  induction m with
  | zero => intro k hk _ _; exact ⟨k, hk, rfl⟩
  | succ m ih =>
   intro k hk hr hg
   obtain ⟨j, hj, hjr, hjg, e⟩ := step k hk hr hg
   obtain ⟨i, hi, e2⟩ := ih j hj hjr hjg
   exact ⟨i, hi, by rw [it_succ, e2, e]⟩
 obtain ⟨k, hk, hr, hg⟩ := hl
 obtain ⟨j, hj, e⟩ := far f.length k hk hr hg
 rw [h.far hj (by omega)] at e
 exact hr e.symm
structure Dgs (f : List Nat) (r a : Nat) : Prop where
 nodup : (dgs f r a).Nodup
 lt : ∀ x ∈ dgs f r a, x < f.length
 root : r ∉ dgs f r a
 past : ∀ j, j < f.length → j ∉ dgs f r a → nx f j ∉ dgs f r a
theorem left_ex {n r : Nat} {G : List Nat} (hr : r < n) (hG : G.length + 1 < n) : ∃ k, k < n ∧ k ≠ r ∧ k ∉ G := by
 apply Classical.byContradiction
 intro hno
 have := nodup_len_le (List.range n) (r :: G) List.nodup_range (fun x hx => by
  rw [List.mem_range] at hx
  rw [List.mem_cons]
  by_cases e : x = r
  · exact .inl e
  · by_cases hg : x ∈ G
    · exact .inr hg
    · exact absurd ⟨x, hx, e, hg⟩ hno)
 simp at this; omega
theorem Dgs.free {f : List Nat} {r a : Nat} (h : TreeN f r) (ha : a + 1 < f.length) : dg f r a < f.length ∧ freeT f r (dgs f r a) (dg f r a) = true :=
 minT_free (h.free_ex (left_ex h.lt (by rw [dgs_len]; exact ha)))
theorem dgs_ok {f : List Nat} {r : Nat} (h : TreeN f r) : ∀ a, a < f.length → Dgs f r a
 | 0, _ => ⟨by simp [dgs], by simp [dgs], by simp [dgs], by simp [dgs]⟩
 | a + 1, ha => by
  have ih := dgs_ok h a (by omega)
  obtain ⟨h1, h2⟩ := Dgs.free h ha
  obtain ⟨f1, f2, f3⟩ := freeT_iff.1 h2
  refine ⟨?_, ?_, ?_, ?_⟩
  · rw [dgs_succ, List.nodup_append]
    refine ⟨ih.nodup, by simp, fun x hx y hy e => ?_⟩
    simp at hy; subst hy e; exact f2 hx
  · intro x hx
    rw [dgs_succ, List.mem_append, List.mem_singleton] at hx
    rcases hx with hx | rfl
    · exact ih.lt x hx
    · exact h1
  · rw [dgs_succ, List.mem_append, List.mem_singleton]
    rintro (hx | e)
    · exact ih.root hx
    · exact f1 e.symm
  · intro j hj hn hm
    rw [dgs_succ, List.mem_append, List.mem_singleton] at hn hm
    have hn1 : j ∉ dgs f r a := fun x => hn (.inl x)
    rcases hm with hm | hm
    · exact ih.past j hj hn1 hm
    · exact f3 j hj hn1 hm
theorem dgs_all {f : List Nat} {r : Nat} (h : TreeN f r) {k : Nat} (hk : k < f.length) (hr : k ≠ r) : k ∈ dgs f r (f.length - 1) := by
 apply Classical.byContradiction
 intro hn
 have hd := dgs_ok h (f.length - 1) (by omega)
 have := nodup_len_le (k :: r :: dgs f r (f.length - 1)) (List.range f.length) (by
  rw [List.nodup_cons, List.nodup_cons]
  exact ⟨by simp [hr, hn], hd.root, hd.nodup⟩) (fun x hx => by
   simp only [List.mem_cons] at hx
   rw [List.mem_range]
   rcases hx with rfl | rfl | hx
   · exact hk
   · exact h.lt
   · exact hd.lt x hx)
 simp [dgs_len] at this
 omega
theorem mem_dgs {f : List Nat} {r x : Nat} : ∀ {a : Nat}, x ∈ dgs f r a ↔ ∃ b, b < a ∧ dg f r b = x
 | 0 => by simp [dgs]
 | a + 1 => by
  rw [dgs_succ, List.mem_append, List.mem_singleton, mem_dgs]
  constructor
  · rintro (⟨b, hb, e⟩ | e)
    · exact ⟨b, by omega, e⟩
    · exact ⟨a, by omega, e.symm⟩
  · rintro ⟨b, hb, e⟩
    by_cases hba : b = a
    · subst hba; exact .inr e.symm
    · exact .inl ⟨b, by omega, e⟩
theorem dg_new {f : List Nat} {r : Nat} (h : TreeN f r) {a b : Nat} (hb : b + 1 < f.length) (hab : a ≤ b) : dg f r b ∉ dgs f r a := fun hm => by
 obtain ⟨_, h2⟩ := Dgs.free h hb
 have f2 := (freeT_iff.1 h2).2.1
 obtain ⟨i, hi, e⟩ := mem_dgs.1 hm
 exact f2 (mem_dgs.2 ⟨i, by omega, e⟩)
def cT (f : List Nat) (r : Nat) : List Nat := (List.range (f.length - 1)).map (fun a => nx f (dg f r a))
theorem cT_len (f : List Nat) (r : Nat) : (cT f r).length = f.length - 1 := by simp [cT]
theorem nx_cT {f : List Nat} {r a : Nat} (ha : a + 1 < f.length) : nx (cT f r) a = nx f (dg f r a) := by
 rw [nx_get (by rw [cT_len]; omega)]; simp [cT]
theorem cT_code {f : List Nat} {r : Nat} (h : TreeN f r) : CodeN (cT f r) := by
 have h7 := h.map.le7
 have hp := h.map.pos
 refine ⟨by rw [cT_len]; omega, fun x hx => ?_⟩
 rw [cT_len]
 obtain ⟨a, ha, rfl⟩ := List.mem_map.1 hx
 rw [List.mem_range] at ha
 have := h.map.has _ (Dgs.free h (a := a) (by omega)).1
 omega
theorem cT_rt {f : List Nat} {r : Nat} (h : TreeN f r) : rt (cT f r) = r := by
 have hlt := h.lt
 unfold rt
 rw [cT_len]
 split
 · omega
 · rename_i h0
   rw [nx_cT (by omega)]
   obtain ⟨a, ha⟩ : ∃ a, a = f.length - 1 - 1 := ⟨_, rfl⟩
   rw [← ha]
   have hf := Dgs.free h (a := a) (by omega)
   obtain ⟨f1, f2, f3⟩ := freeT_iff.1 hf.2
   apply Classical.byContradiction
   intro hne
   have hin := dgs_all h (h.map.has _ hf.1) hne
   rw [show f.length - 1 = a + 1 by omega, dgs_succ, List.mem_append, List.mem_singleton] at hin
   rcases hin with hin | hin
   · exact (dgs_ok h a (by omega)).past _ hf.1 f2 hin
   · exact h.moves hf.1 f1 hin
theorem free_same {f c : List Nat} {r : Nat} {G : List Nat} {a k : Nat} (hr : rt c = r) (hfix : nx f r = r) (hall : ∀ j, j < f.length → j ∉ G → nx f j = k → j ≠ r → ∃ b, a ≤ b ∧ b < c.length ∧ nx c b = k) (hback : ∀ b, a ≤ b → b < c.length → nx c b = k → ∃ j, j < f.length ∧ j ∉ G ∧ nx f j = k) :
    freeT f r G k = freeC c G a k := by
 rw [Bool.eq_iff_iff, freeT_iff, freeC_iff, hr]
 constructor
 · rintro ⟨h1, h2, h3⟩
   refine ⟨h1, h2, fun hm => ?_⟩
   obtain ⟨b, hb1, hb2, e⟩ := mem_drop_nx.1 hm
   obtain ⟨j, hj, hg, e2⟩ := hback b hb1 hb2 e
   exact h3 j hj hg e2
 · rintro ⟨h1, h2, h3⟩
   refine ⟨h1, h2, fun j hj hg e => ?_⟩
   have hjr : j ≠ r := fun ej => by rw [ej, hfix] at e; exact h1 e.symm
   obtain ⟨b, hb1, hb2, e2⟩ := hall j hj hg e hjr
   exact h3 (mem_drop_nx.2 ⟨b, hb1, hb2, e2⟩)
theorem find_same {n : Nat} {p q : Nat → Bool} (h : ∀ k, k < n → p k = q k) : (List.range n).find? p = (List.range n).find? q := by
 have : ∀ l : List Nat, (∀ x ∈ l, p x = q x) → l.find? p = l.find? q := fun l => by
  induction l with
  | nil => intro _; rfl
  | cons a l ih =>
   intro hl
   rw [List.find?_cons, List.find?_cons, hl a (by simp), ih (fun x hx => hl x (List.mem_cons_of_mem _ hx))]
 exact this _ (fun x hx => h x (by simpa using hx))
theorem cT_lfs {f : List Nat} {r : Nat} (h : TreeN f r) : ∀ a, a < f.length → lfs (cT f r) a = dgs f r a
 | 0, _ => rfl
 | a + 1, ha => by
  have ih := cT_lfs h a (by omega)
  rw [lfs_succ, dgs_succ, ih]
  congr 2
  unfold lf dg minF minT
  rw [ih, cT_len, show f.length - 1 + 1 = f.length by omega]
  congr 1
  refine find_same (fun k hk => (free_same (cT_rt h) h.fix ?_ ?_).symm)
  · intro j hj hg e hjr
    obtain ⟨b, hb, eb⟩ := mem_dgs.1 (dgs_all h hj hjr)
    refine ⟨b, ?_, by rw [cT_len]; exact hb, by rw [nx_cT (by omega), eb]; exact e⟩
    rcases Nat.lt_or_ge b a with h1 | h1
    · exact absurd (mem_dgs.2 ⟨b, h1, eb⟩) hg
    · exact h1
  · intro b hb1 hb2 e
    rw [cT_len] at hb2
    rw [nx_cT (by omega)] at e
    exact ⟨dg f r b, (Dgs.free h (a := b) (by omega)).1, dg_new h (by omega) hb1, e⟩
theorem lf_dg {f : List Nat} {r : Nat} (h : TreeN f r) {a : Nat} (ha : a + 1 < f.length) : lf (cT f r) a = dg f r a := by
 have h1 := cT_lfs h (a + 1) ha
 rw [lfs_succ, dgs_succ, cT_lfs h a (by omega)] at h1
 simpa using h1
theorem lf_not_before {c : List Nat} (hc : CodeN c) {a b : Nat} (hb : b < c.length) (hab : a ≤ b) : lf c b ∉ lfs c a := by
 have h := (lvs hc (b + 1) (by omega)).nodup
 rw [lfs_succ, List.nodup_append] at h
 intro hm
 have : ∀ i, a ≤ i → ∀ x ∈ lfs c a, x ∈ lfs c i := fun i hi x hx => by
  induction i with
  | zero => obtain rfl : a = 0 := by omega
            exact hx
  | succ i ih =>
   rcases Nat.lt_or_ge i a with h1 | h1
   · obtain rfl : a = i + 1 := by omega
     exact hx
   · rw [lfs_succ]; exact List.mem_append_left _ (ih h1)
 exact h.2.2 _ (this b hab _ hm) _ (List.mem_singleton.2 rfl) rfl
theorem mem_lfs {c : List Nat} {x : Nat} : ∀ {a : Nat}, x ∈ lfs c a ↔ ∃ b, b < a ∧ lf c b = x
 | 0 => by simp [lfs]
 | a + 1 => by
  rw [lfs_succ, List.mem_append, List.mem_singleton, mem_lfs]
  constructor
  · rintro (⟨b, hb, e⟩ | e)
    · exact ⟨b, by omega, e⟩
    · exact ⟨a, by omega, e.symm⟩
  · rintro ⟨b, hb, e⟩
    by_cases hba : b = a
    · subst hba; exact .inr e.symm
    · exact .inl ⟨b, by omega, e⟩
theorem nx_set {f : List Nat} {i x k : Nat} (hk : k < f.length) : nx (f.set i x) k = if i = k then x else nx f k := by
 rw [nx_get (by simpa using hk), nx_get hk, List.getElem_set]
theorem nx_treeK_root {c : List Nat} (hc : CodeN c) : ∀ a, a ≤ c.length → nx (treeK c a) (rt c) = rt c
 | 0, _ => by
  rw [treeK, nx_set (by have := rt_le hc; simp; omega), if_pos rfl]
 | a + 1, ha => by
  rw [treeK, nx_set (by rw [treeK_len]; have := rt_le hc; omega), if_neg, nx_treeK_root hc a (by omega)]
  exact fun e => (freeC_iff.1 ((lvs hc a (by omega)).free hc (by omega)).2.1).1 e
theorem nx_treeK {c : List Nat} (hc : CodeN c) {b : Nat} : ∀ a, a ≤ c.length → b < a → nx (treeK c a) (lf c b) = nx c b
 | 0, _, h => absurd h (Nat.not_lt_zero _)
 | a + 1, ha, h => by
  have hb := ((lvs hc b (by omega)).free hc (by omega)).1
  rw [treeK, nx_set (by rw [treeK_len]; omega)]
  by_cases e : b = a
  · subst e; rw [if_pos rfl]
  · rw [if_neg, nx_treeK hc a (by omega) (by omega)]
    intro e2
    exact lf_not_before hc (a := a) (b := a) (by omega) (Nat.le_refl _) (mem_lfs.2 ⟨b, by omega, e2.symm⟩)
theorem nx_treeN {c : List Nat} (hc : CodeN c) {b : Nat} (hb : b < c.length) : nx (treeN c) (lf c b) = nx c b := nx_treeK hc _ (Nat.le_refl _) hb
theorem nx_treeN_root {c : List Nat} (hc : CodeN c) : nx (treeN c) (rt c) = rt c := nx_treeK_root hc _ (Nat.le_refl _)
theorem treeN_len (c : List Nat) : (treeN c).length = c.length + 1 := treeK_len c _
theorem lists_eq {f g : List Nat} (hl : f.length = g.length) (h : ∀ k, k < f.length → nx f k = nx g k) : f = g := by
 apply List.ext_getElem hl
 intro k h1 h2
 have := h k h1
 rwa [nx_get h1, nx_get h2] at this
theorem tree_back {f : List Nat} {r : Nat} (h : TreeN f r) : treeN (cT f r) = f := by
 have hc := cT_code h
 have hlt := h.lt
 refine lists_eq (by rw [treeN_len, cT_len]; omega) (fun k hk => ?_)
 rw [treeN_len, cT_len] at hk
 by_cases e : k = r
 · subst e
   have := nx_treeN_root hc
   rw [cT_rt h] at this
   rw [this, h.fix]
 · obtain ⟨b, hb, eb⟩ := mem_dgs.1 (dgs_all h (by omega) e)
   have := nx_treeN hc (b := b) (by rw [cT_len]; exact hb)
   rw [lf_dg h (by omega), nx_cT (by omega), eb] at this
   exact this
theorem code_to {c : List Nat} (hc : CodeN c) {a : Nat} (ha : a < c.length) : nx c a = rt c ∨ ∃ b, a < b ∧ b < c.length ∧ lf c b = nx c a := by
 by_cases e : nx c a = rt c
 · exact .inl e
 · right
   obtain ⟨b, hb, eb⟩ := mem_lfs.1 (lvs_all hc (nx_le hc ha) e)
   refine ⟨b, ?_, hb, eb⟩
   rcases Nat.lt_or_ge a b with h1 | h1
   · exact h1
   · exfalso
     have hf := ((lvs hc a (by omega)).free hc ha).2.1
     by_cases e2 : b = a
     · subst e2
       rw [eb] at hf
       exact (freeC_iff.1 hf).2.2 (nx_mem_drop ha)
     · exact (lvs hc a (by omega)).past (nx c a) (mem_lfs.2 ⟨b, by omega, eb⟩) (nx_mem_drop ha)
theorem treeN_tree {c : List Nat} (hc : CodeN c) : TreeN (treeN c) (rt c) := by
 have h6 := hc.le6
 have hrt := rt_le hc
 have hmap : ∀ k, k < c.length + 1 → nx (treeN c) k < c.length + 1 := fun k hk => by
  by_cases e : k = rt c
  · rw [e, nx_treeN_root hc]; omega
  · obtain ⟨b, hb, eb⟩ := mem_lfs.1 (lvs_all hc (by omega) e)
    rw [← eb, nx_treeN hc hb]
    have := nx_le hc hb
    omega
 have down : ∀ m b, b < c.length → c.length ≤ b + m → ∃ i, it (treeN c) i (lf c b) = rt c := fun m => by
  induction m with
  | zero => intro b hb hm; omega
  | succ m ih =>
   intro b hb hm
   rcases code_to hc hb with e | ⟨d, hd1, hd2, ed⟩
   · exact ⟨1, by rw [it_one, nx_treeN hc hb, e]⟩
   · obtain ⟨i, hi⟩ := ih d hd2 (by omega)
     exact ⟨i + 1, by rw [it_add, it_one, nx_treeN hc hb, ← ed]; exact hi⟩
 refine ⟨⟨by rw [treeN_len]; omega, by rw [treeN_len]; omega, fun k hk => by rw [treeN_len] at hk ⊢; exact hmap k hk⟩, by rw [treeN_len]; omega, nx_treeN_root hc, fun k hk => ?_⟩
 rw [treeN_len] at hk
 by_cases e : k = rt c
 · exact ⟨0, e⟩
 · obtain ⟨b, hb, eb⟩ := mem_lfs.1 (lvs_all hc (by omega) e)
   obtain ⟨i, hi⟩ := down c.length b hb (by omega)
   exact ⟨i, by rw [← eb]; exact hi⟩
theorem code_dgs {c : List Nat} (hc : CodeN c) : ∀ a, a ≤ c.length → dgs (treeN c) (rt c) a = lfs c a
 | 0, _ => rfl
 | a + 1, ha => by
  have ih := code_dgs hc a (by omega)
  rw [lfs_succ, dgs_succ, ih]
  congr 2
  unfold lf dg minF minT
  rw [ih, treeN_len]
  congr 1
  refine find_same (fun k hk => free_same rfl (nx_treeN_root hc) ?_ ?_)
  · intro j hj hg e hjr
    rw [treeN_len] at hj
    obtain ⟨b, hb, eb⟩ := mem_lfs.1 (lvs_all hc (by omega) hjr)
    refine ⟨b, ?_, hb, by rw [← e, ← eb, nx_treeN hc hb]⟩
    rcases Nat.lt_or_ge b a with h1 | h1
    · exact absurd (mem_lfs.2 ⟨b, h1, eb⟩) hg
    · exact h1
  · intro b hb1 hb2 e
    have := ((lvs hc b (by omega)).free hc hb2).1
    exact ⟨lf c b, by rw [treeN_len]; omega, lf_not_before hc hb2 hb1, by rw [nx_treeN hc hb2]; exact e⟩
def codeN (f : List Nat) : List Nat := cT f (lo f 0)
theorem TreeN.code {f : List Nat} {r : Nat} (h : TreeN f r) : codeN f = cT f r := by unfold codeN; rw [h.lo h.map.pos]
theorem TreeN.ex {f : List Nat} {r : Nat} (h : TreeN f r) : ∃ c, CodeN c ∧ f = treeN c ∧ codeN f = c ∧ rt c = r :=
 ⟨cT f r, cT_code h, (tree_back h).symm, h.code, cT_rt h⟩
end
section
def cnK (f : List Nat) (i : Nat) : List Nat := (List.range f.length).map (fun k => (f.take i).count k)
theorem cnK_len (f : List Nat) (i : Nat) : (cnK f i).length = f.length := by simp [cnK]
theorem nx_cnK {f : List Nat} {i k : Nat} (hk : k < f.length) : nx (cnK f i) k = (f.take i).count k := by
 rw [nx_get (by rw [cnK_len]; omega)]; simp [cnK]
theorem cnK_le {f : List Nat} {i k : Nat} (hk : k < f.length) : nx (cnK f i) k ≤ f.length := by
 rw [nx_cnK hk]
 have h1 := List.count_le_length (a := k) (l := f.take i)
 have h2 : (f.take i).length ≤ f.length := by rw [List.length_take]; omega
 omega
theorem cnK_zero (f : List Nat) : cnK f 0 = List.replicate f.length 0 := by
 apply List.ext_getElem (by simp [cnK_len])
 intro k h1 h2
 simp [cnK]
theorem cnK_succ {f : List Nat} {i : Nat} (hi : i < f.length) : (cnK f i).set (nx f i) (nx (cnK f i) (nx f i) + 1) = cnK f (i + 1) := by
 apply List.ext_getElem (by simp [cnK_len])
 intro k h1 h2
 rw [cnK_len] at h2
 rw [List.getElem_set]
 have hR : (cnK f (i + 1))[k] = (f.take (i + 1)).count k := by simp [cnK]
 have ht : f.take (i + 1) = f.take i ++ [nx f i] := by rw [nx_get hi, List.take_succ_eq_append_getElem hi]
 rw [hR, ht, List.count_append]
 split
 · rename_i e
   subst e
   rw [nx_cnK (by omega)]; simp
 · rename_i e
   have hL : (cnK f i)[k]'(by rw [cnK_len]; omega) = (f.take i).count k := by simp [cnK]
   rw [hL, List.count_singleton]
   have : (nx f i == k) = false := by simp [e]
   simp [this]
theorem nx_map (f : List Nat) : (List.range f.length).map (nx f) = f := by
 apply List.ext_getElem (by simp)
 intro k h1 h2
 simp [nx_get h2]
theorem lfs_perm {c : List Nat} (hc : CodeN c) : (lfs c c.length ++ [rt c]).Perm (List.range (c.length + 1)) := by
 have hl := lvs hc c.length (Nat.le_refl _)
 refine (List.perm_ext_iff_of_nodup ?_ List.nodup_range).2 fun x => ?_
 · rw [List.nodup_append]
   refine ⟨hl.nodup, by simp, fun a ha b hb e => ?_⟩
   simp at hb; subst hb e; exact hl.root ha
 · rw [List.mem_append, List.mem_singleton, List.mem_range]
   constructor
   · rintro (h | rfl)
     · have := hl.le x h; omega
     · have := rt_le hc; omega
   · intro h
     by_cases e : x = rt c
     · exact .inr e
     · exact .inl (lvs_all hc (by omega) e)
theorem lfs_map {c : List Nat} (hc : CodeN c) : ∀ a, a ≤ c.length → (lfs c a).map (nx (treeN c)) = c.take a
 | 0, _ => by simp [lfs]
 | a + 1, ha => by
  rw [lfs_succ, List.map_append, lfs_map hc a (by omega), List.take_succ_eq_append_getElem (by omega)]
  simp [nx_treeN hc (show a < c.length by omega), nx_get (show a < c.length by omega)]
theorem treeN_perm {c : List Nat} (hc : CodeN c) : (treeN c).Perm (c ++ [rt c]) := by
 have h := (lfs_perm hc).map (nx (treeN c))
 rw [List.map_append, lfs_map hc _ (Nat.le_refl _), List.take_length] at h
 rw [← treeN_len c, nx_map] at h
 have e : [rt c].map (nx (treeN c)) = [rt c] := by simp [nx_treeN_root hc]
 rw [e] at h
 exact h.symm
theorem treeN_count {c : List Nat} (hc : CodeN c) (k : Nat) : (treeN c).count k = c.count k + if rt c = k then 1 else 0 := by
 rw [(List.perm_iff_count.1 (treeN_perm hc)) k, List.count_append, List.count_singleton]
 by_cases e : rt c = k <;> simp [e]
theorem gI_set {l : List Int} {i k : Nat} {v : Int} (hk : k < l.length) : gI (l.set i v) k = if i = k then v else gI l k := by
 rw [gI_get (by simpa using hk), gI_get hk, List.getElem_set]
theorem lists_gI {a b : List Int} (hl : a.length = b.length) (h : ∀ k, k < a.length → gI a k = gI b k) : a = b := by
 apply List.ext_getElem hl
 intro k h1 h2
 have := h k h1
 rwa [gI_get h1, gI_get h2] at this
def leftR (c : List Nat) (a : Nat) : List Int := (leftI c a).set (rt c) (gI (leftI c a) (rt c) + 1)
theorem leftR_len (c : List Nat) (a : Nat) : (leftR c a).length = c.length + 1 := by simp [leftR, leftI_len]
theorem gI_leftR {c : List Nat} {a k : Nat} (hk : k ≤ c.length) : gI (leftR c a) k = gI (leftI c a) k + if rt c = k then 1 else 0 := by
 unfold leftR
 rw [gI_set (by rw [leftI_len]; omega)]
 split
 · rename_i e; subst e; rfl
 · omega
theorem leftR_zero {c : List Nat} (hc : CodeN c) : ints (cnK (treeN c) (treeN c).length) = leftR c 0 := by
 refine lists_gI (by rw [ints_len, cnK_len, leftR_len, treeN_len]) (fun k hk => ?_)
 rw [ints_len, cnK_len, treeN_len] at hk
 rw [gI_ints, nx_cnK (by rw [treeN_len]; omega), List.take_length, treeN_count hc, gI_leftR (by omega), gI_leftI (by omega)]
 simp [lfs]
 split <;> omega
theorem leftR_bound {c : List Nat} (hc : CodeN c) (a : Nat) (leaf : Nat) {k : Nat} (hk : k ≤ c.length) : -1 ≤ gI ((leftR c a).set leaf (-1)) k ∧ gI ((leftR c a).set leaf (-1)) k ≤ 8 := by
 have h6 := hc.le6
 rw [gI_set (by rw [leftR_len]; omega)]
 split
 · omega
 · rw [gI_leftR hk, gI_leftI hk]
   have h1 := List.count_le_length (a := k) (l := c.drop a)
   have h2 : (c.drop a).length ≤ c.length := by rw [List.length_drop]; omega
   split <;> split <;> omega
theorem leftR_free {c : List Nat} {a k : Nat} (hk : k ≤ c.length) : freeC c (lfs c a) a k = true ↔ k ≠ rt c ∧ gI (leftR c a) k = 0 := by
 rw [leftI_free hk]
 constructor
 · rintro ⟨h1, h2⟩; refine ⟨h1, ?_⟩; rw [gI_leftR hk, if_neg (fun e => h1 e.symm)]; omega
 · rintro ⟨h1, h2⟩; refine ⟨h1, ?_⟩; rw [gI_leftR hk, if_neg (fun e => h1 e.symm)] at h2; omega
theorem leftR_next {c : List Nat} (hc : CodeN c) {a i leaf : Nat} (h : Ptr c a i leaf) (hi : i ≤ c.length) (ha : a < c.length) (hf : freeC c (lfs c a) a leaf = true) :
    ((leftR c a).set leaf (-1)).set (nx c a) (gI ((leftR c a).set leaf (-1)) (nx c a) - 1) = leftR c (a + 1) := by
 have hn := leftI_next hc h hi ha hf
 have hle := h.le
 have hnx := nx_le hc ha
 have hlr := (freeC_iff.1 hf).1
 have htl : nx c a ≠ leaf := fun e => by
  have := h.to_ne hc hi ha hf
  rw [e, lfs_succ, h.leaf_is hi hf] at this
  simp at this
 refine lists_gI (by simp [leftR_len]) (fun k hk => ?_)
 have hk' : k < c.length + 1 := by simpa [leftR_len] using hk
 have g1 : gI ((leftI c a).set leaf (-1)) (nx c a) = gI (leftI c a) (nx c a) := by rw [gI_set (by rw [leftI_len]; omega), if_neg (fun e => htl e.symm)]
 have g2 : gI ((leftR c a).set leaf (-1)) (nx c a) = gI (leftI c a) (nx c a) + if rt c = nx c a then 1 else 0 := by rw [gI_set (by rw [leftR_len]; omega), if_neg (fun e => htl e.symm), gI_leftR hnx]
 have e1 : gI (leftI c (a + 1)) k = if nx c a = k then gI (leftI c a) (nx c a) - 1 else if leaf = k then -1 else gI (leftI c a) k := by
  rw [← hn, g1, gI_set (by simp [leftI_len]; omega), gI_set (by rw [leftI_len]; omega)]
 rw [g2, gI_leftR (c := c) (a := a + 1) (k := k) (by omega), e1, gI_set (by simp [leftR_len]; omega), gI_set (by rw [leftR_len]; omega), gI_leftR (c := c) (a := a) (k := k) (by omega)]
 by_cases h1 : nx c a = k
 · rw [if_pos h1, if_pos h1, h1]; omega
 · rw [if_neg h1, if_neg h1]
   by_cases h2 : leaf = k
   · rw [if_pos h2, if_pos h2, if_neg (by omega)]; omega
   · rw [if_neg h2, if_neg h2]
def FrT (c : List Nat) (a k j : Nat) (b : Bool) : Prop := b = true ↔ (k ≠ rt c ∧ k ∉ lfs c a ∧ ∀ t, t < j → t ∉ lfs c a → t ≠ k → nx (treeN c) t ≠ k)
theorem FrT.start {c : List Nat} {a k : Nat} {b : Bool} (h : b = true ↔ (k ≠ rt c ∧ k ∉ lfs c a)) : FrT c a k 0 b := by
 unfold FrT; rw [h]
 constructor
 · rintro ⟨h1, h2⟩; exact ⟨h1, h2, fun t h3 => by omega⟩
 · rintro ⟨h1, h2, _⟩; exact ⟨h1, h2⟩
theorem FrT.keep {c : List Nat} {a k j : Nat} {b : Bool} (h : FrT c a k j b) (hne : nx (treeN c) j ≠ k ∨ j ∈ lfs c a ∨ j = k) : FrT c a k (j + 1) b := by
 unfold FrT at *; rw [h]
 constructor
 · rintro ⟨h1, h2, h3⟩
   refine ⟨h1, h2, fun t ht hg htk => ?_⟩
   rcases Nat.lt_or_ge t j with h' | h'
   · exact h3 t h' hg htk
   · obtain rfl : t = j := by omega
     rcases hne with h4 | h4 | h4
     · exact h4
     · exact absurd h4 hg
     · exact absurd h4 htk
 · rintro ⟨h1, h2, h3⟩; exact ⟨h1, h2, fun t ht => h3 t (by omega)⟩
theorem FrT.drop {c : List Nat} {a k j : Nat} (he : nx (treeN c) j = k) (hg : j ∉ lfs c a) (hk : j ≠ k) : FrT c a k (j + 1) false := by
 unfold FrT
 constructor
 · intro h; cases h
 · rintro ⟨_, _, h3⟩; exact absurd he (h3 j (by omega) hg hk)
theorem FrT.done {c : List Nat} (hc : CodeN c) {a k : Nat} (ha : a ≤ c.length) (hk : k ≤ c.length) {b : Bool} (h : FrT c a k (c.length + 1) b) : b = freeC c (lfs c a) a k := by
 have ht := treeN_tree hc
 have hs : freeT (treeN c) (rt c) (lfs c a) k = freeC c (lfs c a) a k := free_same rfl (nx_treeN_root hc) (fun j hj hg e hjr => by
     rw [treeN_len] at hj
     obtain ⟨b, hb, eb⟩ := mem_lfs.1 (lvs_all hc (by omega) hjr)
     refine ⟨b, ?_, hb, by rw [← e, ← eb, nx_treeN hc hb]⟩
     rcases Nat.lt_or_ge b a with h1 | h1
     · exact absurd (mem_lfs.2 ⟨b, h1, eb⟩) hg
     · exact h1) (fun b hb1 hb2 e => by
     have := ((lvs hc b (by omega)).free hc hb2).1
     exact ⟨lf c b, by rw [treeN_len]; omega, lf_not_before hc hb2 hb1, by rw [nx_treeN hc hb2]; exact e⟩)
 rw [← hs, Bool.eq_iff_iff, freeT_iff]
 unfold FrT at h
 rw [h, treeN_len]
 constructor
 · rintro ⟨h1, h2, h3⟩
   refine ⟨h1, h2, fun j hj hg e => ?_⟩
   by_cases hjk : j = k
   · subst hjk
     exact ht.moves (by rw [treeN_len]; omega) h1 e
   · exact h3 j hj hg hjk e
 · rintro ⟨h1, h2, h3⟩
   exact ⟨h1, h2, fun t ht hg _ => h3 t ht hg⟩
end
section
def hasI (xs : List Int) (v : Int) : Bool := decide (v ∈ xs)
theorem hasI_no {xs : List Int} {v : Int} (h : ∀ j, j < xs.length → gI xs j ≠ v) : hasI xs v = false := by
 refine decide_eq_false (fun hm => ?_)
 obtain ⟨j, hj, e⟩ := List.mem_iff_getElem.1 hm
 exact h j hj (by rw [gI_get hj]; exact e)
theorem hasI_yes {xs : List Int} {v : Int} {j : Nat} (hj : j < xs.length) (h : gI xs j = v) : hasI xs v = true :=
 decide_eq_true (by rw [← h, gI_get hj]; exact List.getElem_mem hj)
theorem hasI_ints (f : List Nat) (k : Nat) : hasI (ints f) (k : Int) = f.contains k := by
 rw [Bool.eq_iff_iff]
 unfold hasI ints
 simp only [decide_eq_true_eq, List.mem_map, List.contains_iff_mem]
 constructor
 · rintro ⟨x, hx, e⟩
   obtain rfl : x = k := by omega
   exact hx
 · intro h; exact ⟨k, h, rfl⟩
def parts (p : Nat → Bool) (k : Nat) : List Nat := (List.range k).filter p
theorem parts_t {p : Nat → Bool} {k : Nat} (h : p k = true) : parts p (k + 1) = parts p k ++ [k] := by simp [parts, List.range_succ, List.filter_append, h]
theorem parts_f {p : Nat → Bool} {k : Nat} (h : p k = false) : parts p (k + 1) = parts p k := by simp [parts, List.range_succ, List.filter_append, h]
theorem parts_len (p : Nat → Bool) (k : Nat) : (parts p k).length ≤ k := by
 have := List.length_filter_le p (List.range k)
 simpa [parts] using this
def Asc (xs : List Int) : Prop := ∀ i, i + 1 < xs.length → gI xs i < gI xs (i + 1)
theorem parts_asc (p : Nat → Bool) (n : Nat) : Asc (ints (parts p n)) := fun i hi => by
 rw [ints_len] at hi
 have hp : (parts p n).Pairwise (· < ·) := List.pairwise_lt_range.filter p
 have := List.pairwise_iff_getElem.1 hp i (i + 1) (by omega) hi (by omega)
 rw [gI_ints, gI_ints, nx_get (by omega), nx_get hi]
 omega
end
end Go.Proofs.YtoinlkdmfclnbaaGreatDoor
