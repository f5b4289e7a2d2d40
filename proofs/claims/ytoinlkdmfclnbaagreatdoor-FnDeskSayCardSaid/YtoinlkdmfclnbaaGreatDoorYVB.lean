/- Bundle VB. -/
import Derived.Lib.ItoaNum
import Derived.Lib.AtoiAll
import Derived.Lib.Atoi
import Derived.Lib.IndexMore
import Derived.Test.YtoinlkdmfclnbaaGreatDoorYQ
import Derived.Test.YtoinlkdmfclnbaaGreatDoorYV4
import Derived.Test.YtoinlkdmfclnbaaGreatDoorYV9
namespace Go.Proofs.YtoinlkdmfclnbaaGreatDoor
set_option linter.unusedVariables false
section
open Go.Lib
def tx (l : List UInt8) : Bool := decide (1 ≤ l.length ∧ l.length ≤ 7) && l.all fun b => decide (48 ≤ b.toNat ∧ b.toNat < 48 + l.length)
theorem tx_len {l : List UInt8} (h : tx l = true) : 1 ≤ l.length ∧ l.length ≤ 7 := by
 unfold tx at h
 rw [Bool.and_eq_true, decide_eq_true_eq] at h
 exact h.1
theorem tx_dig {l : List UInt8} (h : tx l = true) {b : UInt8} (hb : b ∈ l) : 48 ≤ b.toNat ∧ b.toNat ≤ 57 := by
 have h1 := tx_len h
 unfold tx at h
 rw [Bool.and_eq_true, List.all_eq_true] at h
 have := h.2 b hb
 rw [decide_eq_true_eq] at this
 omega
theorem tx_no {l : List UInt8} (h : tx l = true) {c : UInt8} (hc : c.toNat < 48) : c ∉ l := fun hm => by have := tx_dig h hm; omega
def wLead : List UInt8 := [108, 101, 97, 100]
def wBehind : List UInt8 := [98, 101, 104, 105, 110, 100]
def wPower : List UInt8 := [112, 111, 119, 101, 114]
def wName : List UInt8 := [110, 97, 109, 101]
def wBack : List UInt8 := [98, 97, 99, 107]
def dtL (kd a b : Int) (l : List UInt8) : List UInt8 :=
 if kd = 4 ∧ a = 0 ∧ b = 0 ∧ l = [] then wBack
 else if kd = 0 ∧ l = [] ∧ (0 ≤ a ∧ a ≤ 9) ∧ (0 ≤ b ∧ b ≤ 9) then wLead ++ 32 :: (decDigits a.toNat ++ 32 :: decDigits b.toNat)
 else if kd = 1 ∧ tx l = true ∧ a = 0 ∧ b = 0 then wBehind ++ 32 :: l
 else if kd = 3 ∧ tx l = true ∧ a = 0 ∧ b = 0 then wName ++ 32 :: l
 else if kd = 2 ∧ l = [] ∧ b = 0 ∧ (0 ≤ a ∧ a ≤ 999999) then wPower ++ 32 :: decDigits a.toNat
 else []
inductive DT : Int → Int → Int → List UInt8 → List UInt8 → Prop where
 | back : DT 4 0 0 [] wBack
 | lead (i j : Nat) (hi : i ≤ 9) (hj : j ≤ 9) : DT 0 i j [] (wLead ++ 32 :: (decDigits i ++ 32 :: decDigits j))
 | behind (l : List UInt8) (h : tx l = true) : DT 1 0 0 l (wBehind ++ 32 :: l)
 | name (l : List UInt8) (h : tx l = true) : DT 3 0 0 l (wName ++ 32 :: l)
 | power (n : Nat) (h : n ≤ 999999) : DT 2 n 0 [] (wPower ++ 32 :: decDigits n)
theorem dt_of {kd a b : Int} {l : List UInt8} (h : dtL kd a b l ≠ []) : DT kd a b l (dtL kd a b l) := by
 unfold dtL at h ⊢
 split
 · rename_i h1; obtain ⟨rfl, rfl, rfl, rfl⟩ := h1; exact .back
 · split
   · rename_i h1 h2
     obtain ⟨rfl, rfl, ⟨ha, ha'⟩, hb, hb'⟩ := h2
     obtain ⟨i, rfl⟩ : ∃ i : Nat, a = i := ⟨a.toNat, by omega⟩
     obtain ⟨j, rfl⟩ : ∃ j : Nat, b = j := ⟨b.toNat, by omega⟩
     exact .lead i j (by omega) (by omega)
   · split
     · rename_i h1 h2 h3; obtain ⟨rfl, h4, rfl, rfl⟩ := h3; exact .behind l h4
     · split
       · rename_i h1 h2 h3 h5; obtain ⟨rfl, h4, rfl, rfl⟩ := h5; exact .name l h4
       · split
         · rename_i h1 h2 h3 h4 h5
           obtain ⟨rfl, rfl, rfl, ha, ha'⟩ := h5
           obtain ⟨i, rfl⟩ : ∃ i : Nat, a = i := ⟨a.toNat, by omega⟩
           exact .power i (by omega)
         · rename_i h1 h2 h3 h4 h5
           exact absurd (by rw [if_neg h1, if_neg h2, if_neg h3, if_neg h4, if_neg h5]) h
theorem of_dt {kd a b : Int} {l t : List UInt8} (h : DT kd a b l t) : dtL kd a b l = t := by
 cases h with
 | back => rfl
 | lead i j hi hj => unfold dtL; rw [if_neg (by omega), if_pos ⟨rfl, rfl, by omega, by omega⟩]; rfl
 | behind l h => unfold dtL; rw [if_neg (by omega), if_neg (by omega), if_pos ⟨rfl, h, rfl, rfl⟩]
 | name l h => unfold dtL; rw [if_neg (by omega), if_neg (by omega), if_neg (by omega), if_pos ⟨rfl, h, rfl, rfl⟩]
 | power n h => unfold dtL; rw [if_neg (by omega), if_neg (by omega), if_neg (by omega), if_neg (by omega), if_pos ⟨rfl, rfl, rfl, by omega, by omega⟩]; rfl
theorem dec_dig : ∀ (n : Nat) {b : UInt8}, b ∈ decDigits n → 48 ≤ b.toNat ∧ b.toNat ≤ 57 := by
 intro n
 induction n using Nat.strongRecOn with
 | _ n ih =>
  intro b hb
  rw [decDigits] at hb
  split at hb
  · rw [List.mem_singleton] at hb
    subst hb
    rw [UInt8.toNat_ofNat']
    omega
  · rw [List.mem_append, List.mem_singleton] at hb
    rcases hb with hb | rfl
    · exact ih (n / 10) (by omega) hb
    · rw [UInt8.toNat_ofNat']
      omega
theorem dec_no (n : Nat) {c : UInt8} (hc : c.toNat < 48) : c ∉ decDigits n := fun hm => by have := dec_dig n hm; omega
theorem decFrom_app (l r : List UInt8) : ∀ acc, decFrom acc (l ++ r) = (decFrom acc l).bind fun n => decFrom n r := by
 induction l with
 | nil => intro acc; rfl
 | cons b t ih =>
  intro acc
  simp only [List.cons_append, decFrom]
  cases digitVal b with
  | none => rfl
  | some d => exact ih _
theorem digit_of {d : Nat} (h : d ≤ 9) : digitVal (UInt8.ofNat (48 + d)) = some d := by
 unfold digitVal
 rw [UInt8.toNat_ofNat', if_pos (by omega)]
 congr 1
 omega
theorem dec_ne (n : Nat) : decDigits n ≠ [] := by
 rw [decDigits]
 split <;> simp
theorem decFrom_dec : ∀ n : Nat, decFrom 0 (decDigits n) = some n := by
 intro n
 induction n using Nat.strongRecOn with
 | _ n ih =>
  rw [decDigits]
  split
  · simp only [decFrom, digit_of (show n ≤ 9 by omega)]
    congr 1
    omega
  · rw [decFrom_app, ih (n / 10) (by omega)]
    simp only [Option.bind_some, decFrom, digit_of (show n % 10 ≤ 9 by omega)]
    congr 1
    omega
theorem dec_head {n : Nat} (h : 10 ≤ n) : (decDigits n).head? ≠ some 48 := by
 induction n using Nat.strongRecOn with
 | _ n ih =>
  rw [decDigits, dif_neg (by omega)]
  have hne := dec_ne (n / 10)
  cases hd : decDigits (n / 10) with
  | nil => exact absurd hd hne
  | cons c t =>
   rw [List.cons_append, List.head?_cons]
   by_cases h2 : 10 ≤ n / 10
   · have := ih (n / 10) (by omega) h2
     rw [hd, List.head?_cons] at this
     exact this
   · rw [decDigits_one (by omega)] at hd
     injection hd with hc ht
     subst hc
     intro he
     rw [Option.some.injEq] at he
     have := congrArg UInt8.toNat he
     rw [UInt8.toNat_ofNat'] at this
     simp at this
     omega
theorem dec_len {n : Nat} (h : n ≤ 999999) : (decDigits n).length ≤ 6 := by
 rw [decDigits_length]
 rcases Nat.lt_or_ge n 10 with h1 | h1
 · rw [nDigits_small h1]; omega
 rcases Nat.lt_or_ge n 100 with h3 | h3
 · rw [nDigits_unique 1 n (by omega) (by omega)]; omega
 rcases Nat.lt_or_ge n 1000 with h4 | h4
 · rw [nDigits_unique 2 n (by omega) (by omega)]; omega
 rcases Nat.lt_or_ge n 10000 with h5 | h5
 · rw [nDigits_unique 3 n (by omega) (by omega)]; omega
 rcases Nat.lt_or_ge n 100000 with h6 | h6
 · rw [nDigits_unique 4 n (by omega) (by omega)]; omega
 · rw [nDigits_unique 5 n (by omega) (by omega)]; omega
theorem pre_one (c b : UInt8) (l : List UInt8) : List.isPrefixOf [c] (b :: l) = (c == b) := by simp [List.isPrefixOf]
theorem index_no {c : UInt8} : ∀ {u : List UInt8}, c ∉ u → index u [c] = -1
 | [], _ => rfl
 | b :: l, h => by
  rw [List.mem_cons, not_or] at h
  unfold index
  rw [pre_one, show (c == b) = false from beq_eq_false_iff_ne.2 h.1, index_no h.2]
  rfl
theorem index_yes {c : UInt8} : ∀ {u : List UInt8} (v : List UInt8), c ∉ u → index (u ++ c :: v) [c] = u.length
 | [], v, _ => by rw [List.nil_append]; unfold index; rw [pre_one, beq_self_eq_true]; rfl
 | b :: l, v, h => by
  rw [List.mem_cons, not_or] at h
  rw [List.cons_append]
  unfold index
  rw [pre_one, show (c == b) = false from beq_eq_false_iff_ne.2 h.1, index_yes v h.2]
  rw [show ((l.length : Int) == -1) = false from by rw [beq_eq_false_iff_ne]; omega]
  simp
theorem cut_no {c : UInt8} {u : List UInt8} (h : c ∉ u) : cut u [c] = (u, [], false) := by
 unfold cut; rw [index_no h]; rfl
theorem cut_yes {c : UInt8} {u : List UInt8} (v : List UInt8) (h : c ∉ u) : cut (u ++ c :: v) [c] = (u, v, true) := by
 unfold cut
 rw [index_yes v h, if_pos (by omega), Int.toNat_natCast]
 simp
def spl (c : UInt8) : List UInt8 → List (List UInt8)
 | [] => [[]]
 | b :: r => if b = c then [] :: spl c r else match spl c r with
  | [] => [[b]]
  | h :: t => (b :: h) :: t
theorem spl_no {c : UInt8} : ∀ {u : List UInt8}, c ∉ u → spl c u = [u]
 | [], _ => rfl
 | b :: l, h => by
  rw [List.mem_cons, not_or] at h
  unfold spl
  rw [if_neg (Ne.symm h.1), spl_no h.2]
theorem spl_yes {c : UInt8} : ∀ {u : List UInt8} (v : List UInt8), c ∉ u → spl c (u ++ c :: v) = u :: spl c v
 | [], v, _ => by rw [List.nil_append]; conv => lhs; unfold spl
                  rw [if_pos rfl]
 | b :: l, v, h => by
  rw [List.mem_cons, not_or] at h
  rw [List.cons_append]
  conv => lhs; unfold spl
  rw [if_neg (Ne.symm h.1), spl_yes v h.2]
theorem mem_first {c : UInt8} : ∀ {l : List UInt8}, c ∈ l → ∃ u v, l = u ++ c :: v ∧ c ∉ u
 | [], h => by simp at h
 | b :: l, h => by
  by_cases e : b = c
  · exact ⟨[], l, by rw [e]; rfl, by simp⟩
  · obtain ⟨u, v, hl, hu⟩ := mem_first (l := l) (by rcases List.mem_cons.1 h with h | h; exact absurd h.symm e; exact h)
    exact ⟨b :: u, v, by rw [hl]; rfl, by rw [List.mem_cons, not_or]; exact ⟨Ne.symm e, hu⟩⟩
theorem spl_any (c : UInt8) (l : List UInt8) : (c ∉ l ∧ spl c l = [l] ∧ cut l [c] = (l, [], false)) ∨ ∃ u v, c ∉ u ∧ l = u ++ c :: v ∧ spl c l = u :: spl c v ∧ cut l [c] = (u, v, true) := by
 by_cases h : c ∈ l
 · right
   obtain ⟨u, v, rfl, hu⟩ := mem_first h
   exact ⟨u, v, hu, rfl, spl_yes v hu, cut_yes v hu⟩
 · exact .inl ⟨h, spl_no h, cut_no h⟩
def rdW (l : List UInt8) : Option (Int × Int × Int × List UInt8) :=
 let w := (cut l [32]).1
 let r := (cut l [32]).2.1
 if w = wLead then (if r.length = 3 then some (0, (r.getD 0 0).toNat - 48, (r.getD 2 0).toNat - 48, []) else none)
 else if w = wBehind then some (1, 0, 0, r)
 else if w = wPower then (match atoiAll r with | .ok v => some (2, v, 0, []) | _ => none)
 else if w = wName then some (3, 0, 0, r)
 else if w = wBack then some (4, 0, 0, [])
 else none
theorem parse_app (b : UInt8) (u : Nat) : ∀ (l : List UInt8) (acc : Nat), parseUint10 acc l = .ok u → parseUint10 acc (l ++ [b]) = parseUint10 u [b] := by
 intro l
 induction l with
 | nil =>
  intro acc h
  simp only [parseUint10] at h
  injection h with h
  rw [h]
  rfl
 | cons c t ih =>
  intro acc h
  simp only [List.cons_append]
  rw [parseUint10] at h ⊢
  split at h
  · rename_i h1
    rw [if_pos h1]
    split at h
    · cases h
    · rename_i h2
      rw [if_neg h2]
      split at h
      · cases h
      · rename_i h3
        rw [if_neg h3]
        exact ih _ h
  · cases h
theorem parse_dec : ∀ n : Nat, n ≤ 999999 → parseUint10 0 (decDigits n) = .ok n := by
 intro n
 induction n using Nat.strongRecOn with
 | _ n ih =>
  intro hn
  rw [decDigits]
  split
  · have : (UInt8.ofNat (48 + n)).toNat = 48 + n := by rw [UInt8.toNat_ofNat']; omega
    simp only [parseUint10, this]
    rw [if_pos (by omega), if_neg (by omega), if_neg (by omega)]
    congr 1
    omega
  · rw [parse_app _ _ _ _ (ih (n / 10) (by omega) (by omega))]
    have : (UInt8.ofNat (48 + n % 10)).toNat = 48 + n % 10 := by rw [UInt8.toNat_ofNat']; omega
    simp only [parseUint10, this]
    rw [if_pos (by omega), if_neg (by omega), if_neg (by omega)]
    congr 1
    omega
theorem atoi_dec {n : Nat} (h : n ≤ 999999) : atoiAll (decDigits n) = .ok (n : Int) := by
 have h1 := parse_dec n h
 have hne := dec_ne n
 have hd := fun b => dec_dig n (b := b)
 cases hc : decDigits n with
 | nil => exact absurd hc hne
 | cons c r =>
  rw [hc] at h1 hd
  have hc2 := hd c List.mem_cons_self
  unfold atoiAll parseMag
  simp only
  rw [if_neg (show ¬ (c.toNat = 43 ∨ c.toNat = 45) by omega), if_neg (List.cons_ne_nil _ _), h1]
  simp only
  rw [if_neg (by omega), if_neg (by omega), if_neg (by omega)]
theorem rdW_dt {kd a b : Int} {x l : List UInt8} (h : DT kd a b x l) : rdW l = some (kd, a, b, x) := by
 cases h with
 | back => decide +kernel
 | lead i j hi hj =>
  unfold rdW
  rw [cut_yes _ (by decide)]
  simp only
  rw [if_pos trivial, decDigits_one (by omega), decDigits_one (by omega), if_pos (show ([UInt8.ofNat (48 + i)] ++ 32 :: [UInt8.ofNat (48 + j)]).length = 3 from rfl)]
  have e1 : (UInt8.ofNat (48 + i)).toNat = 48 + i := by rw [UInt8.toNat_ofNat']; omega
  have e2 : (UInt8.ofNat (48 + j)).toNat = 48 + j := by rw [UInt8.toNat_ofNat']; omega
  show some ((0 : Int), (((UInt8.ofNat (48 + i)).toNat : Nat) : Int) - 48, (((UInt8.ofNat (48 + j)).toNat : Nat) : Int) - 48, ([] : List UInt8)) = _
  rw [e1, e2, show ((48 + i : Nat) : Int) - 48 = i by omega, show ((48 + j : Nat) : Int) - 48 = j by omega]
 | behind l h =>
  unfold rdW
  rw [cut_yes _ (by decide)]
  simp only
  rw [if_neg (by decide), if_pos trivial]
 | name l h =>
  unfold rdW
  rw [cut_yes _ (by decide)]
  simp only
  rw [if_neg (by decide), if_neg (by decide), if_neg (by decide), if_pos trivial]
 | power n h =>
  unfold rdW
  rw [cut_yes _ (by decide)]
  simp only
  rw [if_neg (by decide), if_neg (by decide), if_pos trivial, atoi_dec h]
def rdV (l : List UInt8) : (Int × Int × Int × List UInt8) × Bool :=
 match rdW l with
 | some (kd, a, b, x) => if l ≠ [] ∧ dtL kd a b x = l then ((kd, a, b, x), true) else ((0, 0, 0, []), false)
 | none => ((0, 0, 0, []), false)
theorem rdV_yes {kd a b : Int} {x l : List UInt8} (h0 : l ≠ []) (h : dtL kd a b x = l) : rdV l = ((kd, a, b, x), true) := by
 have h1 := dt_of (kd := kd) (a := a) (b := b) (l := x) (by rw [h]; exact h0)
 rw [h] at h1
 unfold rdV
 rw [rdW_dt h1]
 simp only
 rw [if_pos ⟨h0, h⟩]
theorem rdV_no {l : List UInt8} (h : ∀ kd a b x, DT kd a b x l → False) : rdV l = ((0, 0, 0, []), false) := by
 unfold rdV
 cases hw : rdW l with
 | none => rfl
 | some d =>
  obtain ⟨kd, a, b, x⟩ := d
  simp only
  rw [if_neg]
  rintro ⟨h0, h1⟩
  have h2 := dt_of (kd := kd) (a := a) (b := b) (l := x) (by rw [h1]; exact h0)
  rw [h1] at h2
  exact h _ _ _ _ h2
def digs (l : List UInt8) : Int :=
 if 1 ≤ l.length ∧ l.length ≤ 6 ∧ ¬ (1 < l.length ∧ l.head? = some 48) then (match decFrom 0 l with | some n => (n : Int) | none => -1) else -1
theorem digs_dec {n : Nat} (h : n ≤ 999999) : digs (decDigits n) = n := by
 unfold digs
 have h1 := dec_len h
 have hne := List.length_pos_iff.2 (dec_ne n)
 have h4 : ¬ (1 < (decDigits n).length ∧ (decDigits n).head? = some 48) := by
  rintro ⟨h2, h3⟩
  by_cases hn : n < 10
  · rw [decDigits_one hn] at h2
    simp at h2
  · exact dec_head (by omega) h3
 rw [if_pos ⟨hne, h1, h4⟩, decFrom_dec]
def cands (l : List UInt8) : List (Int × Int × Int × List UInt8) :=
 (4, 0, 0, []) :: ((if (spl 32 l).length = 2 then [(1, 0, 0, (spl 32 l).getD 1 []), (3, 0, 0, (spl 32 l).getD 1 []), (2, digs ((spl 32 l).getD 1 []), 0, [])] else []) ++
  (if (spl 32 l).length = 3 then [(0, digs ((spl 32 l).getD 1 []), digs ((spl 32 l).getD 2 []), [])] else []))
theorem cands_dt {kd a b : Int} {x l : List UInt8} (h : DT kd a b x l) : (kd, a, b, x) ∈ cands l := by
 unfold cands
 cases h with
 | back => exact List.mem_cons_self
 | lead i j hi hj =>
  rw [spl_yes _ (by decide), spl_yes _ (dec_no i (by decide)), spl_no (dec_no j (by decide))]
  simp [digs_dec (show i ≤ 999999 by omega), digs_dec (show j ≤ 999999 by omega)]
 | behind l h =>
  rw [spl_yes _ (by decide), spl_no (tx_no h (by decide))]
  simp
 | name l h =>
  rw [spl_yes _ (by decide), spl_no (tx_no h (by decide))]
  simp
 | power n h =>
  rw [spl_yes _ (by decide), spl_no (dec_no n (by decide))]
  simp [digs_dec h]
theorem rdV_cands {l : List UInt8} (h : ∀ d ∈ cands l, l = [] ∨ dtL d.1 d.2.1 d.2.2.1 d.2.2.2 ≠ l) : rdV l = ((0, 0, 0, []), false) := by
 apply rdV_no
 intro kd a b x hd
 rcases h _ (cands_dt hd) with h1 | h1
 · subst h1
   cases hd
 · exact h1 (of_dt hd)
theorem dt_len {kd a b : Int} {x l : List UInt8} (h : DT kd a b x l) : l.length ≤ 20 ∧ 1 ≤ l.length := by
 cases h with
 | back => decide
 | lead i j hi hj => rw [decDigits_one (by omega), decDigits_one (by omega)]; simp [wLead]
 | behind l h => have := tx_len h; simp [wBehind]; omega
 | name l h => have := tx_len h; simp [wName]; omega
 | power n h => have := dec_len h; simp [wPower]; omega
end
section
open Go.RowKit
def bl (l : List UInt8) : ByteArray := ⟨l.toArray⟩
theorem bl_app (a b : List UInt8) : bl a ++ bl b = bl (a ++ b) := by
 apply ByteArray.ext
 simp [bl]
theorem bl_of (s : ByteArray) : bl s.data.toList = s := by simp [bl]
theorem bl_list (l : List UInt8) : (bl l).data.toList = l := by simp [bl]
theorem bl_size (l : List UInt8) : (bl l).size = l.length := by simp [bl, ByteArray.size]
theorem dig_bl (d : Nat) : dig d = bl [UInt8.ofNat (48 + d)] := rfl
def decX (n : Nat) : ByteArray := bl (Lib.decDigits n)
theorem decX_small {n : Nat} (h : n < 10) : decX n = dig n := by unfold decX; rw [Lib.decDigits_one h]; rfl
theorem decX_big {n : Nat} (h : ¬ n < 10) : decX n = decX (n / 10) ++ dig (n % 10) := by
 unfold decX
 rw [dig_bl, bl_app]
 conv => lhs; rw [Lib.decDigits, dif_neg h]
theorem decX_size : ∀ n : Nat, (decX n).size ≤ n + 1 := by
 intro n
 induction n using Nat.strongRecOn with
 | _ n ih =>
  by_cases h : n < 10
  · rw [decX_small h]; show 1 ≤ n + 1; omega
  · rw [decX_big h, ByteArray.size_append]
    have := ih (n / 10) (by omega)
    have e : (dig (n % 10)).size = 1 := rfl
    omega
theorem conv_c (V : World) (g d : Nat) (hd : d ≤ 9) (hc : V.cell? ⟨g, 0, none⟩ = some (.int .u8 (48 + (d : Int)))) :
    (convert 22 9 (.slice (some ⟨g, 0, none⟩) 1 1)).run Tryz.prog V = .ok (.string (dig d)) V :=
 Lib.run_convert_whole (P := Tryz.prog) _ 22 5 9 Tryz.underlying22 Tryz.underlying5 Tryz.underlying9 g 0 (dig d) (dig_bytes d _ _ hd hc) 1
set_option maxRecDepth 100000 in
set_option maxHeartbeats 1600000 in
theorem l1Number_c : ∀ (n : Nat) (w : World), n ≤ 1000000000000 →
    Calls Tryz.prog 51 #[.int .i64 (n : Int)] w fun e w' => e = .returned (.string (decX n)) ∧ Below w.heap.size w w' := by
 intro n
 induction n using Nat.strongRecOn with
 | _ n ih =>
  intro w hn
  by_cases h : n < 10
  · rw [decX_small h]
    exact l1Number_d n w (by omega)
  · obtain ⟨q, hq⟩ : ∃ q : Nat, n / 10 = q := ⟨_, rfl⟩
    obtain ⟨d, hd⟩ : ∃ d : Nat, n % 10 = d := ⟨_, rfl⟩
    have hqi : (n : Int) / 10 = (q : Int) := by omega
    have hdi : (n : Int) % 10 = (d : Int) := by omega
    have hqt : (n : Int).tdiv 10 = (q : Int) := by rw [Int.tdiv_eq_ediv_of_nonneg (by omega)]; omega
    have hdt : (n : Int).tmod 10 = (d : Int) := by rw [Int.tmod_eq_emod_of_nonneg (by omega)]; omega
    have hd9 : d ≤ 9 := by omega
    have K := fun W => ih q (by omega) W (by omega)
    have HX : Hid (decX n = decX q ++ dig d) := Lib.hid (by rw [decX_big h, hq, hd])
    have hna : ¬ (9223372036854775807 < (decX q).size + (dig d).size) := by
     have := decX_size q
     rw [show (dig d).size = 1 from rfl]; omega
    have hwr : IntKind.u8.wrap (48 + (d : Int)) = 48 + (d : Int) := (by decide : ∀ d : Fin 10, IntKind.u8.wrap (48 + ((d : Nat) : Int)) = 48 + ((d : Nat) : Int)) ⟨d, by omega⟩
    have h10 : ¬ (n : Int) < 10 := by omega
    have hw1 : IntKind.i64.wrap (q : Int) = (q : Int) := IntWalk.i64_in _ (by omega)
    have hw2 : IntKind.i64.wrap (48 + (d : Int)) = 48 + (d : Int) := IntWalk.i64_in _ (by omega)
    clear hq hd h ih
    generalize decX n = T at *
    generalize decX q = U at *
    have hb0 : Below w.heap.size w w.drew := bd (Below.refl _ _) 1
    have hbA : Below w.heap.size w (World.drew (w.alloc (.cells #[.int .u8 (48 + (d : Int))] 5))) := bd ((Below.refl _ _).alloc (Nat.le_refl _) _) 1
    have kA : (convert 22 9 (.slice (some ⟨w.heap.size, 0, none⟩) 1 1)).run Tryz.prog (World.drew (w.alloc (.cells #[.int .u8 (48 + (d : Int))] 5))) = .ok (.string (dig d)) (World.drew (w.alloc (.cells #[.int .u8 (48 + (d : Int))] 5))) :=
     conv_c _ w.heap.size d hd9 ((World.cell?_alloc_at _ _ _ _ rfl).trans rfl)
    have cA : World.cell? (World.drew (w.alloc (.cells #[.int .u8 (48 + (d : Int))] 5))) ⟨w.heap.size, 0, none⟩ = some (.int .u8 (48 + (d : Int))) := (World.cell?_alloc_at _ _ _ _ rfl).trans rfl
    have HC := Lib.hid cA
    have HB := Lib.hid hbA
    have HB0 := Lib.hid hb0
    clear cA hbA hb0
    go_enter Tryz.func51, Tryz.ntmps51
    go_wp2_with fail
    go_region_with (first
     | (go_at_call 51; with_reducible refine (K _).mono ?_; rintro e w3 ⟨rfl, hb3⟩; (first | (have hB3 : Below w.heap.size w w3 := (by with_reducible exact bt HB.out hb3); have kB := conv_c w3 w.heap.size d hd9 ((hb3.cell (p := ⟨w.heap.size, 0, none⟩) (by simp)).trans HC.out)) | (have hB3 : Below w.heap.size w w3 := (by with_reducible exact bt HB0.out hb3); have kB := conv_c (w3.alloc (.cells #[.int .u8 (48 + (d : Int))] 5)) w3.heap.size d hd9 ((World.cell?_alloc_at _ _ _ _ rfl).trans rfl))))
    )
    all_goals
     go_wp2_with fail
     go_ret
     exact ⟨by rw [HX.out]; rfl, by first | exact hB3 | exact hB3.alloc hB3.size _⟩
end
section
open Go.RowKit
def digT (l : List Nat) : List UInt8 := l.map (fun d => UInt8.ofNat (48 + d))
theorem digT_len (l : List Nat) : (digT l).length = l.length := by simp [digT]
theorem digT_app (a b : List Nat) : digT (a ++ b) = digT a ++ digT b := by simp [digT]
theorem take_nx {l : List Nat} {k : Nat} (h : k < l.length) : l.take (k + 1) = l.take k ++ [nx l k] := by
 rw [List.take_succ_eq_append_getElem h]
 unfold nx
 simp [List.getD, List.getElem?_eq_getElem h]
theorem digT_succ {l : List Nat} {k : Nat} (h : k < l.length) : digT (l.take (k + 1)) = digT (l.take k) ++ [UInt8.ofNat (48 + nx l k)] := by rw [take_nx h, digT_app]; rfl
theorem mtX_dig (f : List Nat) : ∀ k, k ≤ f.length → mtX f k = bl (digT (f.take k))
 | 0, _ => rfl
 | k + 1, h => by rw [mtX_succ, mtX_dig f k (by omega), dig_bl, bl_app, digT_succ (by omega)]
theorem mtI_dig {f : List Nat} (hf : MapN f) : mtI (ints f) = bl (digT f) := by
 have : mtI (ints f) = mtX f f.length := by unfold mtI; rw [mapOk_ints hf, toN_ints, ints_len]; rfl
 rw [this, mtX_dig f _ (Nat.le_refl _), List.take_of_length_le (Nat.le_refl _)]
theorem byte_info : (Tryz.prog.info? 5).map (fun i => (i.zero, i.size, i.bytes)) = some (some (.int .u8 0), 1, 1) := by kernel_rfl
def OwnY (w : World) (B : Nat) (v : Value) (bs : List UInt8) : Prop := w.ownsRow B 5 1 v bs.length (Lib.byteCells bs)
theorem app_byte {ops : Array Oper} {rest : List Oper} {o : Oper} {a : Act} {Q : Exit → Act → World → Prop} (w : World) (y : UInt8) (hgd : o.guard = none) (s x : Operand)
    (ho : o.op = .call { callee := .builtin .append, args := #[s, x], argTypes := #[22, 22] })
    (B : Nat) (v : Value) (bs : List UInt8) (hs : a.eval s = v) (hown : OwnY w B v bs) (hx : a.eval x = .slice (some ⟨w.heap.size, 0, none⟩) 1 1)
    (hlen : bs.length ≤ 1000000000000) (hB : B ≤ w.heap.size)
    (h : ∀ v' w', OwnY w' B v' (bs ++ [y]) → Below B w w' → wpList Tryz.prog ops Q rest (a.put o.dst v') w') :
    wpList Tryz.prog ops Q (o :: rest) a (w.alloc (.cells #[.int .u8 (y.toNat : Int)] 5)) := by
 obtain ⟨i0, hi, hz0, hz1, hz2⟩ := info_parts byte_info
 have hl : (Lib.byteCells bs).length = bs.length := Lib.byteCells_length bs
 refine wpList_append_own _ hgd s x 22 ho B 5 i0 (.int .u8 0) 1 1 Tryz.underlying22 hi hz0 hz1 hz2 rfl (by decide) v bs.length (Lib.byteCells bs) hs (hown.alloc _) ⟨w.heap.size, 0, none⟩ 1 1 [.int .u8 (y.toNat : Int)] hx rfl (cell_one_new _ _ _) (by simp [Value.oneCell']) (by unfold maxLen; omega) (by omega) (by simp; omega) ?_
 intro v' w' hown' hg _
 refine h v' w' ?_ ?_
 · unfold OwnY
   rw [List.length_append, show Lib.byteCells (bs ++ [y]) = Lib.byteCells bs ++ [.int .u8 (y.toNat : Int)] from by simp [Lib.byteCells]]
   exact hown'
 · refine ((Below.refl B w).alloc hB _).grown hg (by simp; omega) (fun k hk => (hown.lt k hk).1)
theorem OwnY.conv {w : World} {B : Nat} {v : Value} {bs : List UInt8} (h : OwnY w B v bs) : (convert 22 9 v).run Tryz.prog w = .ok (.string (bl bs)) w := by
 have hl := Lib.byteCells_length bs
 rcases h.2 with ⟨rfl, h0⟩ | ⟨g, cap, cur, rfl, hg, hh, h1, h2, h3, h4⟩
 · have : bs = [] := List.length_eq_zero_iff.1 h0
   subst this
   rw [run_convert_bytes_string w 22 9 5 none 0 0 Tryz.underlying22 Tryz.underlying5 Tryz.underlying9]
   simp [Conv.bytesToString]
   rfl
 · have hb : Lib.Bytes w g 0 (bl bs) := fun i hi => by
    have hi' : i < bs.length := by rw [← bl_size]; exact hi
    rw [Nat.zero_add, h.cellAt i (by omega)]
    simp [Lib.byteCells, hi', bl]
    rfl
   have := Lib.run_convert_whole (P := Tryz.prog) w 22 5 9 Tryz.underlying22 Tryz.underlying5 Tryz.underlying9 g 0 (bl bs) hb cap
   rwa [bl_size] at this
theorem u8_dig (d : Nat) (hd : d ≤ 9) : IntKind.u8.wrap (48 + (d : Int)) = ((UInt8.ofNat (48 + d)).toNat : Int) := by
 have h1 : IntKind.u8.wrap (48 + (d : Int)) = 48 + (d : Int) := (by decide : ∀ d : Fin 10, IntKind.u8.wrap (48 + ((d : Nat) : Int)) = 48 + ((d : Nat) : Int)) ⟨d, by omega⟩
 have h2 : (UInt8.ofNat (48 + d)).toNat = 48 + d := by rw [UInt8.toNat_ofNat']; omega
 rw [h1, h2]; simp
set_option maxRecDepth 100000 in
set_option maxHeartbeats 1600000 in
theorem digitsOf_c (l : List Nat) (hl : ∀ k, k < l.length → nx l k ≤ 9) (h9 : l.length ≤ 100) (A : Option Addr) (c : Nat) (w : World) (h : Rd w w.heap.size A l.length c (ints l)) :
    Calls Tryz.prog 117 #[.slice A l.length c] w fun e w' => e = .returned (.string (bl (digT l))) ∧ Below w.heap.size w w' := by
 have hcp := h.cap
 have hmx := h.max
 unfold maxLen at hmx
 obtain ⟨i0, hi, hz0, hz1, hz2⟩ := info_parts byte_info
 obtain ⟨w1, hmk, hO1, hg1⟩ := run_make_own (P := Tryz.prog) (w := w) w.heap.size 22 5 i0 _ 1 Tryz.underlying22 hi hz0 hz1 .i64 .i64 l.length (by rw [hz2]; omega) (by unfold maxLen; omega) (Nat.le_refl _)
 have hb1 : Below w.heap.size w w1 := (Below.refl _ _).grown hg1 (by simp) (fun k hk => by cases hk)
 have HO1 : Hid (OwnY w1 w.heap.size (.slice (some ⟨w.heap.size, 0, none⟩) 0 l.length) []) := Lib.hid hO1
 have h1 := h.up hb1
 have HT : Hid (digT (l.take l.length) = digT l) := Lib.hid (by rw [List.take_of_length_le (Nat.le_refl _)])
 have HS : Hid (∀ k, k < l.length → digT (l.take (k + 1)) = digT (l.take k) ++ [UInt8.ofNat (48 + nx l k)]) := Lib.hid (fun k hk => digT_succ hk)
 clear hO1 hg1 hz0 hz1 hz2 hi
 go_enter Tryz.func117, Tryz.ntmps117
 go_wp2_with fail
 go_loopw [3, 11] (fun v i wr => ∃ k : Nat, k ≤ l.length ∧ i = .int .i64 (k : Int) ∧ OwnY wr w.heap.size v (digT (l.take k)) ∧ Below w.heap.size w wr) (fun _ i _ => l.length - (intOf i).toNat)
 case atStart => exact ⟨0, Nat.zero_le _, rfl, by rw [List.take_zero]; exact HO1.out, hb1⟩
 case round =>
  obtain ⟨k, hk, rfl, hO, hbw⟩ := hrel
  have hrd := h.up hbw
  have hz := hbw.size
  by_cases hlt : k < l.length
  · obtain ⟨b, off, rfl, hb, hcell⟩ := hrd.at_ hlt
    rw [gI_ints] at hcell
    have hd := hl k hlt
    have hst := HS.out k hlt
    have hu := u8_dig (nx l k) hd
    have hlen : (digT (l.take k)).length ≤ 100 := by rw [digT_len, List.length_take]; omega
    generalize nx l k = d at *
    generalize digT (l.take k) = bs at *
    have HST := Lib.hid hst
    have hk1 : (k : Int) < (l.length : Int) := by omega
    clear hst HS
    go_wp2_with (at_builtin; refine app_byte wr (UInt8.ofNat (48 + d)) rfl _ _ rfl w.heap.size _ bs rfl hO rfl (by omega) (by omega) ?_; intro v' w4 hown4 hb4)
    go_roundw
    case rel => exact ⟨k + 1, by omega, by go_num, by rw [HST.out]; exact hown4, hbw.trans hb4⟩
    case measure => simp [intOf]; omega
  · obtain rfl : k = l.length := by omega
    rw [HT.out] at hO
    have hcv := hO.conv
    go_wp2_with fail
    go_ret
    exact ⟨rfl, hbw⟩
set_option maxHeartbeats 800000 in
theorem mapTextI_c {f : List Nat} (hf : MapN f) (A : Option Addr) (c : Nat) (w : World) (h : Rd w w.heap.size A f.length c (ints f)) :
    Calls Tryz.prog 145 #[.slice A f.length c] w fun e w' => e = .returned (.string (bl (digT f))) ∧ Below w.heap.size w w' := by
 have hs := mapOk_ints hf
 have h7 := hf.le7
 have K1 := mapOk_c _ _ _ _ _ h
 rw [hs] at K1
 have K2 := digitsOf_c f (fun k hk => by have := hf.has k hk; omega) (by omega) A c w h
 go_enter Tryz.func145, Tryz.ntmps145
 go_wp2_with (go_at_call 68; with_reducible refine K1.mono ?_; rintro e w' ⟨rfl, rfl⟩)
 refine K2.mono ?_
 rintro e w3 ⟨rfl, hb3⟩
 go_wp2_with fail
 go_ret
 exact ⟨rfl, hb3⟩
set_option maxRecDepth 100000 in
set_option maxHeartbeats 1600000 in
theorem row_c (l : List Nat) (hl : ∀ k, k < l.length → nx l k ≤ 9) (h9 : l.length ≤ 100) (A : Option Addr) (c : Nat) (w : World) (h : Rd w w.heap.size A l.length c (ints l)) :
    Calls Tryz.prog 55 #[.slice A l.length c] w fun e w' => e = .returned (.string (bl (digT l))) ∧ Below w.heap.size w w' := by
 have hcp := h.cap
 have hmx := h.max
 unfold maxLen at hmx
 have HT : Hid (digT (l.take l.length) = digT l) := Lib.hid (by rw [List.take_of_length_le (Nat.le_refl _)])
 have HS : Hid (∀ k, k < l.length → digT (l.take (k + 1)) = digT (l.take k) ++ [UInt8.ofNat (48 + nx l k)]) := Lib.hid (fun k hk => digT_succ hk)
 go_enter Tryz.func55, Tryz.ntmps55
 go_wp2_with fail
 go_loopw [3, 4] (fun v i wr => ∃ k : Nat, k ≤ l.length ∧ i = .int .i64 (k : Int) ∧ v = .string (bl (digT (l.take k))) ∧ Below w.heap.size w wr) (fun _ i _ => l.length - (intOf i).toNat)
 case atStart => exact ⟨0, Nat.zero_le _, rfl, rfl, Below.refl _ _⟩
 case round =>
  obtain ⟨k, hk, rfl, rfl, hbw⟩ := hrel
  have hrd := h.up hbw
  by_cases hlt : k < l.length
  · obtain ⟨b, off, rfl, hb, hcell⟩ := hrd.at_ hlt
    rw [gI_ints] at hcell
    have hd := hl k hlt
    have hst := HS.out k hlt
    have hlen : (bl (digT (l.take k))).size ≤ 100 := by rw [bl_size, digT_len, List.length_take]; omega
    have K2 := l1Number_d (nx l k) wr hd
    have HST : Hid (bl (digT (l.take (k + 1))) = bl (digT (l.take k)) ++ dig (nx l k)) := Lib.hid (by rw [hst, dig_bl, bl_app])
    clear hst HS
    generalize nx l k = d at *
    generalize bl (digT (l.take k)) = T at *
    have hna : ¬ (9223372036854775807 < T.size + (dig d).size) := by rw [show (dig d).size = 1 from rfl]; omega
    have hk0 : (0 : Int) ≤ (k : Int) := Int.natCast_nonneg _
    have hk1 : (k : Int) < (l.length : Int) := by omega
    go_wp2_with fail
    refine K2.mono ?_
    rintro e w3 ⟨rfl, hb3⟩
    have hB3 := bt hbw hb3
    go_wp2_with fail
    go_roundw
    case rel => exact ⟨k + 1, by omega, by go_num, by rw [HST.out], hB3⟩
    case measure => simp [intOf]; omega
  · obtain rfl : k = l.length := by omega
    rw [HT.out]
    go_wp2_with fail
    go_ret
    exact ⟨rfl, hbw⟩
end
section
open Go.Lib
abbrev Dl := Int × Int × Int × List UInt8
def dtD (d : Dl) : List UInt8 := dtL d.1 d.2.1 d.2.2.1 d.2.2.2
theorem spl_len {c : UInt8} {u v : List UInt8} : (u ++ c :: v).length = u.length + 1 + v.length := by simp; omega
theorem rdV_text {l : List UInt8} (h : (rdV l).2 = true) : l ≠ [] ∧ dtD (rdV l).1 = l := by
 unfold rdV at h ⊢
 cases hw : rdW l with
 | none => rw [hw] at h; cases h
 | some d =>
  obtain ⟨kd, a, b, x⟩ := d
  rw [hw] at h
  simp only at h ⊢
  split at h
  · rename_i h1
    rw [if_pos h1]
    exact h1
  · cases h
theorem dtD_len (d : Dl) : (dtD d).length ≤ 20 := by
 by_cases h : dtD d = []
 · rw [h]; exact Nat.zero_le _
 · exact (dt_len (dt_of h)).1
end
end Go.Proofs.YtoinlkdmfclnbaaGreatDoor
