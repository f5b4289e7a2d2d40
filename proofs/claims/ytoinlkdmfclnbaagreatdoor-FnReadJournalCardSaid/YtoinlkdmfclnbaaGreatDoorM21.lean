/- Plain laws: texts of deeds, and reading them: each text is that of one deed. -/
import Derived.Lib.ItoaNum
import Derived.Lib.AtoiAll
import Derived.Lib.Atoi
import Derived.Lib.IndexMore
namespace Go.Proofs.YtoinlkdmfclnbaaGreatDoor
set_option linter.unusedVariables false
open Go.Lib

/-- the text of a map: 1 to 7 digits, each below their number -/
def tx (l : List UInt8) : Bool := decide (1 ≤ l.length ∧ l.length ≤ 7) && l.all fun b => decide (48 ≤ b.toNat ∧ b.toNat < 48 + l.length)
theorem tx_len {l : List UInt8} (h : tx l = true) : 1 ≤ l.length ∧ l.length ≤ 7 := by
  unfold tx at h
  rw [Bool.and_eq_true, decide_eq_true_eq] at h
  exact h.1
theorem tx_dig {l : List UInt8} (h : tx l = true) {b : UInt8} (hb : b ∈ l) : 48 ≤ b.toNat ∧ b.toNat ≤ 57 := by
  have h1 := tx_len h
  unfold tx at h
  rw [Bool.and_eq_true, List.all_eq_true] at h
  have := h.2 b hb
  rw [decide_eq_true_eq] at this
  omega
theorem tx_no {l : List UInt8} (h : tx l = true) {c : UInt8} (hc : c.toNat < 48) : c ∉ l := fun hm => by have := tx_dig h hm; omega

def wLead : List UInt8 := [108, 101, 97, 100]
def wBehind : List UInt8 := [98, 101, 104, 105, 110, 100]
def wPower : List UInt8 := [112, 111, 119, 101, 114]
def wName : List UInt8 := [110, 97, 109, 101]
def wBack : List UInt8 := [98, 97, 99, 107]

/-- the text of a deed -/
def dtL (kd a b : Int) (l : List UInt8) : List UInt8 :=
  if kd = 4 ∧ a = 0 ∧ b = 0 ∧ l = [] then wBack
  else if kd = 0 ∧ l = [] ∧ (0 ≤ a ∧ a ≤ 9) ∧ (0 ≤ b ∧ b ≤ 9) then wLead ++ 32 :: (decDigits a.toNat ++ 32 :: decDigits b.toNat)
  else if kd = 1 ∧ tx l = true ∧ a = 0 ∧ b = 0 then wBehind ++ 32 :: l
  else if kd = 3 ∧ tx l = true ∧ a = 0 ∧ b = 0 then wName ++ 32 :: l
  else if kd = 2 ∧ l = [] ∧ b = 0 ∧ (0 ≤ a ∧ a ≤ 999999) then wPower ++ 32 :: decDigits a.toNat
  else []

/-- a deed and its text -/
inductive DT : Int → Int → Int → List UInt8 → List UInt8 → Prop where
  | back : DT 4 0 0 [] wBack
  | lead (i j : Nat) (hi : i ≤ 9) (hj : j ≤ 9) : DT 0 i j [] (wLead ++ 32 :: (decDigits i ++ 32 :: decDigits j))
  | behind (l : List UInt8) (h : tx l = true) : DT 1 0 0 l (wBehind ++ 32 :: l)
  | name (l : List UInt8) (h : tx l = true) : DT 3 0 0 l (wName ++ 32 :: l)
  | power (n : Nat) (h : n ≤ 999999) : DT 2 n 0 [] (wPower ++ 32 :: decDigits n)
theorem dt_of {kd a b : Int} {l : List UInt8} (h : dtL kd a b l ≠ []) : DT kd a b l (dtL kd a b l) := by
  unfold dtL at h ⊢
  split
  · rename_i h1; obtain ⟨rfl, rfl, rfl, rfl⟩ := h1; exact .back
  · split
    · rename_i h1 h2
      obtain ⟨rfl, rfl, ⟨ha, ha'⟩, hb, hb'⟩ := h2
      obtain ⟨i, rfl⟩ : ∃ i : Nat, a = i := ⟨a.toNat, by omega⟩
      obtain ⟨j, rfl⟩ : ∃ j : Nat, b = j := ⟨b.toNat, by omega⟩
      exact .lead i j (by omega) (by omega)
    · split
      · rename_i h1 h2 h3; obtain ⟨rfl, h4, rfl, rfl⟩ := h3; exact .behind l h4
      · split
        · rename_i h1 h2 h3 h5; obtain ⟨rfl, h4, rfl, rfl⟩ := h5; exact .name l h4
        · split
          · rename_i h1 h2 h3 h4 h5
            obtain ⟨rfl, rfl, rfl, ha, ha'⟩ := h5
            obtain ⟨i, rfl⟩ : ∃ i : Nat, a = i := ⟨a.toNat, by omega⟩
            exact .power i (by omega)
          · rename_i h1 h2 h3 h4 h5
            exact absurd (by rw [if_neg h1, if_neg h2, if_neg h3, if_neg h4, if_neg h5]) h
theorem of_dt {kd a b : Int} {l t : List UInt8} (h : DT kd a b l t) : dtL kd a b l = t := by
  cases h with
  | back => rfl
  | lead i j hi hj => unfold dtL; rw [if_neg (by omega), if_pos ⟨rfl, rfl, by omega, by omega⟩]; rfl
  | behind l h => unfold dtL; rw [if_neg (by omega), if_neg (by omega), if_pos ⟨rfl, h, rfl, rfl⟩]
  | name l h => unfold dtL; rw [if_neg (by omega), if_neg (by omega), if_neg (by omega), if_pos ⟨rfl, h, rfl, rfl⟩]
  | power n h => unfold dtL; rw [if_neg (by omega), if_neg (by omega), if_neg (by omega), if_neg (by omega), if_pos ⟨rfl, rfl, rfl, by omega, by omega⟩]; rfl

/-! ### digits -/
theorem dec_dig : ∀ (n : Nat) {b : UInt8}, b ∈ decDigits n → 48 ≤ b.toNat ∧ b.toNat ≤ 57 := by
  intro n
  induction n using Nat.strongRecOn with
  | _ n ih =>
    intro b hb
    rw [decDigits] at hb
    split at hb
    · rw [List.mem_singleton] at hb
      subst hb
      rw [UInt8.toNat_ofNat']
      omega
    · rw [List.mem_append, List.mem_singleton] at hb
      rcases hb with hb | rfl
      · exact ih (n / 10) (by omega) hb
      · rw [UInt8.toNat_ofNat']
        omega
theorem dec_no (n : Nat) {c : UInt8} (hc : c.toNat < 48) : c ∉ decDigits n := fun hm => by have := dec_dig n hm; omega
theorem decFrom_app (l r : List UInt8) : ∀ acc, decFrom acc (l ++ r) = (decFrom acc l).bind fun n => decFrom n r := by
  induction l with
  | nil => intro acc; rfl
  | cons b t ih =>
    intro acc
    simp only [List.cons_append, decFrom]
    cases digitVal b with
    | none => rfl
    | some d => exact ih _
theorem digit_of {d : Nat} (h : d ≤ 9) : digitVal (UInt8.ofNat (48 + d)) = some d := by
  unfold digitVal
  rw [UInt8.toNat_ofNat', if_pos (by omega)]
  congr 1
  omega
theorem dec_ne (n : Nat) : decDigits n ≠ [] := by
  rw [decDigits]
  split <;> simp
theorem decFrom_dec : ∀ n : Nat, decFrom 0 (decDigits n) = some n := by
  intro n
  induction n using Nat.strongRecOn with
  | _ n ih =>
    rw [decDigits]
    split
    · simp only [decFrom, digit_of (show n ≤ 9 by omega)]
      congr 1
      omega
    · rw [decFrom_app, ih (n / 10) (by omega)]
      simp only [Option.bind_some, decFrom, digit_of (show n % 10 ≤ 9 by omega)]
      congr 1
      omega
theorem dec_head {n : Nat} (h : 10 ≤ n) : (decDigits n).head? ≠ some 48 := by
  induction n using Nat.strongRecOn with
  | _ n ih =>
    rw [decDigits, dif_neg (by omega)]
    have hne := dec_ne (n / 10)
    cases hd : decDigits (n / 10) with
    | nil => exact absurd hd hne
    | cons c t =>
      rw [List.cons_append, List.head?_cons]
      by_cases h2 : 10 ≤ n / 10
      · have := ih (n / 10) (by omega) h2
        rw [hd, List.head?_cons] at this
        exact this
      · rw [decDigits_one (by omega)] at hd
        injection hd with hc ht
        subst hc
        intro he
        rw [Option.some.injEq] at he
        have := congrArg UInt8.toNat he
        rw [UInt8.toNat_ofNat'] at this
        simp at this
        omega
theorem dec_len {n : Nat} (h : n ≤ 999999) : (decDigits n).length ≤ 6 := by
  rw [decDigits_length]
  rcases Nat.lt_or_ge n 10 with h1 | h1
  · rw [nDigits_small h1]; omega
  rcases Nat.lt_or_ge n 100 with h3 | h3
  · rw [nDigits_unique 1 n (by omega) (by omega)]; omega
  rcases Nat.lt_or_ge n 1000 with h4 | h4
  · rw [nDigits_unique 2 n (by omega) (by omega)]; omega
  rcases Nat.lt_or_ge n 10000 with h5 | h5
  · rw [nDigits_unique 3 n (by omega) (by omega)]; omega
  rcases Nat.lt_or_ge n 100000 with h6 | h6
  · rw [nDigits_unique 4 n (by omega) (by omega)]; omega
  · rw [nDigits_unique 5 n (by omega) (by omega)]; omega

/-! ### words -/
theorem pre_one (c b : UInt8) (l : List UInt8) : List.isPrefixOf [c] (b :: l) = (c == b) := by simp [List.isPrefixOf]
theorem index_no {c : UInt8} : ∀ {u : List UInt8}, c ∉ u → index u [c] = -1
  | [], _ => rfl
  | b :: l, h => by
    rw [List.mem_cons, not_or] at h
    unfold index
    rw [pre_one, show (c == b) = false from beq_eq_false_iff_ne.2 h.1, index_no h.2]
    rfl
theorem index_yes {c : UInt8} : ∀ {u : List UInt8} (v : List UInt8), c ∉ u → index (u ++ c :: v) [c] = u.length
  | [], v, _ => by rw [List.nil_append]; unfold index; rw [pre_one, beq_self_eq_true]; rfl
  | b :: l, v, h => by
    rw [List.mem_cons, not_or] at h
    rw [List.cons_append]
    unfold index
    rw [pre_one, show (c == b) = false from beq_eq_false_iff_ne.2 h.1, index_yes v h.2]
    rw [show ((l.length : Int) == -1) = false from by rw [beq_eq_false_iff_ne]; omega]
    simp
theorem cut_no {c : UInt8} {u : List UInt8} (h : c ∉ u) : cut u [c] = (u, [], false) := by
  unfold cut; rw [index_no h]; rfl
theorem cut_yes {c : UInt8} {u : List UInt8} (v : List UInt8) (h : c ∉ u) : cut (u ++ c :: v) [c] = (u, v, true) := by
  unfold cut
  rw [index_yes v h, if_pos (by omega), Int.toNat_natCast]
  simp
/-- the words between the bytes c -/
def spl (c : UInt8) : List UInt8 → List (List UInt8)
  | [] => [[]]
  | b :: r => if b = c then [] :: spl c r else match spl c r with
    | [] => [[b]]
    | h :: t => (b :: h) :: t
theorem spl_no {c : UInt8} : ∀ {u : List UInt8}, c ∉ u → spl c u = [u]
  | [], _ => rfl
  | b :: l, h => by
    rw [List.mem_cons, not_or] at h
    unfold spl
    rw [if_neg (Ne.symm h.1), spl_no h.2]
theorem spl_yes {c : UInt8} : ∀ {u : List UInt8} (v : List UInt8), c ∉ u → spl c (u ++ c :: v) = u :: spl c v
  | [], v, _ => by rw [List.nil_append]; conv => lhs; unfold spl
                   rw [if_pos rfl]
  | b :: l, v, h => by
    rw [List.mem_cons, not_or] at h
    rw [List.cons_append]
    conv => lhs; unfold spl
    rw [if_neg (Ne.symm h.1), spl_yes v h.2]
theorem mem_first {c : UInt8} : ∀ {l : List UInt8}, c ∈ l → ∃ u v, l = u ++ c :: v ∧ c ∉ u
  | [], h => by simp at h
  | b :: l, h => by
    by_cases e : b = c
    · exact ⟨[], l, by rw [e]; rfl, by simp⟩
    · obtain ⟨u, v, hl, hu⟩ := mem_first (l := l) (by rcases List.mem_cons.1 h with h | h; exact absurd h.symm e; exact h)
      exact ⟨b :: u, v, by rw [hl]; rfl, by rw [List.mem_cons, not_or]; exact ⟨Ne.symm e, hu⟩⟩
theorem spl_any (c : UInt8) (l : List UInt8) : (c ∉ l ∧ spl c l = [l] ∧ cut l [c] = (l, [], false)) ∨ ∃ u v, c ∉ u ∧ l = u ++ c :: v ∧ spl c l = u :: spl c v ∧ cut l [c] = (u, v, true) := by
  by_cases h : c ∈ l
  · right
    obtain ⟨u, v, rfl, hu⟩ := mem_first h
    exact ⟨u, v, hu, rfl, spl_yes v hu, cut_yes v hu⟩
  · exact .inl ⟨h, spl_no h, cut_no h⟩

/-! ### reading (program): the deed that a text may be of -/
def rdW (l : List UInt8) : Option (Int × Int × Int × List UInt8) :=
  let w := (cut l [32]).1
  let r := (cut l [32]).2.1
  if w = wLead then (if r.length = 3 then some (0, (r.getD 0 0).toNat - 48, (r.getD 2 0).toNat - 48, []) else none)
  else if w = wBehind then some (1, 0, 0, r)
  else if w = wPower then (match atoiAll r with | .ok v => some (2, v, 0, []) | _ => none)
  else if w = wName then some (3, 0, 0, r)
  else if w = wBack then some (4, 0, 0, [])
  else none
theorem parse_app (b : UInt8) (u : Nat) : ∀ (l : List UInt8) (acc : Nat), parseUint10 acc l = .ok u → parseUint10 acc (l ++ [b]) = parseUint10 u [b] := by
  intro l
  induction l with
  | nil =>
    intro acc h
    simp only [parseUint10] at h
    injection h with h
    rw [h]
    rfl
  | cons c t ih =>
    intro acc h
    simp only [List.cons_append]
    rw [parseUint10] at h ⊢
    split at h
    · rename_i h1
      rw [if_pos h1]
      split at h
      · cases h
      · rename_i h2
        rw [if_neg h2]
        split at h
        · cases h
        · rename_i h3
          rw [if_neg h3]
          exact ih _ h
    · cases h
theorem parse_dec : ∀ n : Nat, n ≤ 999999 → parseUint10 0 (decDigits n) = .ok n := by
  intro n
  induction n using Nat.strongRecOn with
  | _ n ih =>
    intro hn
    rw [decDigits]
    split
    · have : (UInt8.ofNat (48 + n)).toNat = 48 + n := by rw [UInt8.toNat_ofNat']; omega
      simp only [parseUint10, this]
      rw [if_pos (by omega), if_neg (by omega), if_neg (by omega)]
      congr 1
      omega
    · rw [parse_app _ _ _ _ (ih (n / 10) (by omega) (by omega))]
      have : (UInt8.ofNat (48 + n % 10)).toNat = 48 + n % 10 := by rw [UInt8.toNat_ofNat']; omega
      simp only [parseUint10, this]
      rw [if_pos (by omega), if_neg (by omega), if_neg (by omega)]
      congr 1
      omega
theorem atoi_dec {n : Nat} (h : n ≤ 999999) : atoiAll (decDigits n) = .ok (n : Int) := by
  have h1 := parse_dec n h
  have hne := dec_ne n
  have hd := fun b => dec_dig n (b := b)
  cases hc : decDigits n with
  | nil => exact absurd hc hne
  | cons c r =>
    rw [hc] at h1 hd
    have hc2 := hd c List.mem_cons_self
    unfold atoiAll parseMag
    simp only
    rw [if_neg (show ¬ (c.toNat = 43 ∨ c.toNat = 45) by omega), if_neg (List.cons_ne_nil _ _), h1]
    simp only
    rw [if_neg (by omega), if_neg (by omega), if_neg (by omega)]
theorem rdW_dt {kd a b : Int} {x l : List UInt8} (h : DT kd a b x l) : rdW l = some (kd, a, b, x) := by
  cases h with
  | back => decide +kernel
  | lead i j hi hj =>
    unfold rdW
    rw [cut_yes _ (by decide)]
    simp only
    rw [if_pos trivial, decDigits_one (by omega), decDigits_one (by omega), if_pos (show ([UInt8.ofNat (48 + i)] ++ 32 :: [UInt8.ofNat (48 + j)]).length = 3 from rfl)]
    have e1 : (UInt8.ofNat (48 + i)).toNat = 48 + i := by rw [UInt8.toNat_ofNat']; omega
    have e2 : (UInt8.ofNat (48 + j)).toNat = 48 + j := by rw [UInt8.toNat_ofNat']; omega
    show some ((0 : Int), (((UInt8.ofNat (48 + i)).toNat : Nat) : Int) - 48, (((UInt8.ofNat (48 + j)).toNat : Nat) : Int) - 48, ([] : List UInt8)) = _
    rw [e1, e2, show ((48 + i : Nat) : Int) - 48 = i by omega, show ((48 + j : Nat) : Int) - 48 = j by omega]
  | behind l h =>
    unfold rdW
    rw [cut_yes _ (by decide)]
    simp only
    rw [if_neg (by decide), if_pos trivial]
  | name l h =>
    unfold rdW
    rw [cut_yes _ (by decide)]
    simp only
    rw [if_neg (by decide), if_neg (by decide), if_neg (by decide), if_pos trivial]
  | power n h =>
    unfold rdW
    rw [cut_yes _ (by decide)]
    simp only
    rw [if_neg (by decide), if_neg (by decide), if_pos trivial, atoi_dec h]
/-- ReadDeed -/
def rdV (l : List UInt8) : (Int × Int × Int × List UInt8) × Bool :=
  match rdW l with
  | some (kd, a, b, x) => if l ≠ [] ∧ dtL kd a b x = l then ((kd, a, b, x), true) else ((0, 0, 0, []), false)
  | none => ((0, 0, 0, []), false)
theorem rdV_yes {kd a b : Int} {x l : List UInt8} (h0 : l ≠ []) (h : dtL kd a b x = l) : rdV l = ((kd, a, b, x), true) := by
  have h1 := dt_of (kd := kd) (a := a) (b := b) (l := x) (by rw [h]; exact h0)
  rw [h] at h1
  unfold rdV
  rw [rdW_dt h1]
  simp only
  rw [if_pos ⟨h0, h⟩]
theorem rdV_no {l : List UInt8} (h : ∀ kd a b x, DT kd a b x l → False) : rdV l = ((0, 0, 0, []), false) := by
  unfold rdV
  cases hw : rdW l with
  | none => rfl
  | some d =>
    obtain ⟨kd, a, b, x⟩ := d
    simp only
    rw [if_neg]
    rintro ⟨h0, h1⟩
    have h2 := dt_of (kd := kd) (a := a) (b := b) (l := x) (by rw [h1]; exact h0)
    rw [h1] at h2
    exact h _ _ _ _ h2
/-! ### reading (reference): the deeds that are tried -/
def digs (l : List UInt8) : Int :=
  if 1 ≤ l.length ∧ l.length ≤ 6 ∧ ¬ (1 < l.length ∧ l.head? = some 48) then (match decFrom 0 l with | some n => (n : Int) | none => -1) else -1
theorem digs_dec {n : Nat} (h : n ≤ 999999) : digs (decDigits n) = n := by
  unfold digs
  have h1 := dec_len h
  have hne := List.length_pos_iff.2 (dec_ne n)
  have h4 : ¬ (1 < (decDigits n).length ∧ (decDigits n).head? = some 48) := by
    rintro ⟨h2, h3⟩
    by_cases hn : n < 10
    · rw [decDigits_one hn] at h2
      simp at h2
    · exact dec_head (by omega) h3
  rw [if_pos ⟨hne, h1, h4⟩, decFrom_dec]
def cands (l : List UInt8) : List (Int × Int × Int × List UInt8) :=
  (4, 0, 0, []) :: ((if (spl 32 l).length = 2 then [(1, 0, 0, (spl 32 l).getD 1 []), (3, 0, 0, (spl 32 l).getD 1 []), (2, digs ((spl 32 l).getD 1 []), 0, [])] else []) ++
    (if (spl 32 l).length = 3 then [(0, digs ((spl 32 l).getD 1 []), digs ((spl 32 l).getD 2 []), [])] else []))
theorem cands_dt {kd a b : Int} {x l : List UInt8} (h : DT kd a b x l) : (kd, a, b, x) ∈ cands l := by
  unfold cands
  cases h with
  | back => exact List.mem_cons_self
  | lead i j hi hj =>
    rw [spl_yes _ (by decide), spl_yes _ (dec_no i (by decide)), spl_no (dec_no j (by decide))]
    simp [digs_dec (show i ≤ 999999 by omega), digs_dec (show j ≤ 999999 by omega)]
  | behind l h =>
    rw [spl_yes _ (by decide), spl_no (tx_no h (by decide))]
    simp
  | name l h =>
    rw [spl_yes _ (by decide), spl_no (tx_no h (by decide))]
    simp
  | power n h =>
    rw [spl_yes _ (by decide), spl_no (dec_no n (by decide))]
    simp [digs_dec h]
theorem rdV_cands {l : List UInt8} (h : ∀ d ∈ cands l, l = [] ∨ dtL d.1 d.2.1 d.2.2.1 d.2.2.2 ≠ l) : rdV l = ((0, 0, 0, []), false) := by
  apply rdV_no
  intro kd a b x hd
  rcases h _ (cands_dt hd) with h1 | h1
  · subst h1
    cases hd
  · exact h1 (of_dt hd)
/-- No text of a deed has a byte 10, or ends with a space. -/
theorem dt_nl {kd a b : Int} {x l : List UInt8} (h : DT kd a b x l) : (10 : UInt8) ∉ l := by
  have h10 : ∀ n, (10 : UInt8) ∉ decDigits n := fun n => dec_no n (by decide)
  cases h with
  | back => decide
  | lead i j hi hj => simp [wLead, h10]
  | behind l h => simp [wBehind, tx_no h (c := 10) (by decide)]
  | name l h => simp [wName, tx_no h (c := 10) (by decide)]
  | power n h => simp [wPower, h10]
theorem dt_end {kd a b : Int} {x l : List UInt8} (h : DT kd a b x l) : l.getLast? ≠ some 32 := by
  have hd : ∀ (u v : List UInt8), v ≠ [] → 32 ∉ v → (u ++ v).getLast? ≠ some 32 := fun u v hv h he => by
    rw [List.getLast?_append, Option.or_eq_some_iff] at he
    rcases he with he | ⟨he, _⟩
    · exact h (List.mem_of_getLast? he)
    · exact hv (List.getLast?_eq_none_iff.1 he)
  have hm : ∀ (u v : List UInt8), v ≠ [] → 32 ∉ v → (u ++ 32 :: v).getLast? ≠ some 32 := fun u v hv h => by
    have := hd (u ++ [32]) v hv h
    rwa [List.append_assoc] at this
  have hx : ∀ {l : List UInt8}, tx l = true → l ≠ [] := fun h e => by have := (tx_len h).1; rw [e] at this; simp at this
  cases h with
  | back => decide
  | lead i j hi hj =>
    have := hm (wLead ++ 32 :: decDigits i) (decDigits j) (dec_ne j) (dec_no j (by decide))
    rwa [List.append_assoc] at this
  | behind l h => exact hm _ _ (hx h) (tx_no h (by decide))
  | name l h => exact hm _ _ (hx h) (tx_no h (by decide))
  | power n h => exact hm _ _ (dec_ne n) (dec_no n (by decide))
theorem rdV_space {l : List UInt8} : rdV (l ++ [32]) = ((0, 0, 0, []), false) := by
  apply rdV_no
  intro kd a b x h
  exact dt_end h (by simp)
theorem dt_len {kd a b : Int} {x l : List UInt8} (h : DT kd a b x l) : l.length ≤ 20 ∧ 1 ≤ l.length := by
  cases h with
  | back => decide
  | lead i j hi hj => rw [decDigits_one (by omega), decDigits_one (by omega)]; simp [wLead]
  | behind l h => have := tx_len h; simp [wBehind]; omega
  | name l h => have := tx_len h; simp [wName]; omega
  | power n h => have := dec_len h; simp [wPower]; omega
end Go.Proofs.YtoinlkdmfclnbaaGreatDoor
