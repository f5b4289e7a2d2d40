/- Plain laws: journals: the lines of deeds, and reading them. -/
import Derived.Test.YtoinlkdmfclnbaaGreatDoorM21
namespace Go.Proofs.YtoinlkdmfclnbaaGreatDoor
set_option linter.unusedVariables false
open Go.Lib

abbrev Dl := Int × Int × Int × List UInt8
def dtD (d : Dl) : List UInt8 := dtL d.1 d.2.1 d.2.2.1 d.2.2.2
/-- the lines of deeds -/
def lns (ds : List Dl) : List UInt8 := ds.flatMap fun d => dtD d ++ [10]
theorem lns_cons (d : Dl) (ds : List Dl) : lns (d :: ds) = dtD d ++ 10 :: lns ds := by simp [lns]
theorem lns_snoc (ds : List Dl) (d : Dl) : lns (ds ++ [d]) = lns ds ++ (dtD d ++ [10]) := by simp [lns]
/-- JournalText -/
def jtL (ds : List Dl) : List UInt8 := if ds.all fun d => decide (dtD d ≠ []) then lns ds else []
theorem jtL_yes {ds : List Dl} (h : ∀ d ∈ ds, dtD d ≠ []) : jtL ds = lns ds := by
  unfold jtL
  rw [if_pos]
  rw [List.all_eq_true]
  exact fun d hd => decide_eq_true (h d hd)
theorem jtL_no {ds : List Dl} {d : Dl} (hd : d ∈ ds) (h : dtD d = []) : jtL ds = [] := by
  unfold jtL
  rw [if_neg]
  intro h1
  rw [List.all_eq_true] at h1
  exact of_decide_eq_true (h1 d hd) h
theorem jtL_all {ds : List Dl} (h : jtL ds ≠ []) : (∀ d ∈ ds, dtD d ≠ []) ∧ jtL ds = lns ds := by
  have h1 : ∀ d ∈ ds, dtD d ≠ [] := fun d hd e => h (jtL_no hd e)
  exact ⟨h1, jtL_yes h1⟩
/-- ReadJournal, with fuel -/
def rjN : Nat → List UInt8 → List Dl × Nat
  | 0, _ => ([], 0)
  | n + 1, l => if (cut l [10]).2.2 && (rdV (cut l [10]).1).2 then ((rdV (cut l [10]).1).1 :: (rjN n (cut l [10]).2.1).1, (cut l [10]).1.length + 1 + (rjN n (cut l [10]).2.1).2) else ([], 0)
def rj (l : List UInt8) : List Dl × Nat := rjN (l.length + 1) l
theorem spl_len {c : UInt8} {u v : List UInt8} : (u ++ c :: v).length = u.length + 1 + v.length := by simp; omega
theorem rjN_fuel : ∀ (n m : Nat) (l : List UInt8), l.length < n → l.length < m → rjN n l = rjN m l
  | n + 1, m + 1, l, h1, h2 => by
    unfold rjN
    rcases spl_any 10 l with ⟨_, _, e⟩ | ⟨u, v, hu, rfl, _, e⟩
    · rw [e]; rfl
    · rw [e]
      rw [spl_len] at h1 h2
      simp only
      rw [rjN_fuel n m v (by omega) (by omega)]
theorem rj_none {l : List UInt8} (h : 10 ∉ l) : rj l = ([], 0) := by
  unfold rj rjN
  rw [cut_no h]
  rfl
theorem rj_bad {u : List UInt8} (v : List UInt8) (hu : 10 ∉ u) (h : (rdV u).2 = false) : rj (u ++ 10 :: v) = ([], 0) := by
  unfold rj rjN
  rw [cut_yes v hu]
  simp only
  rw [h]
  rfl
theorem rj_more {u : List UInt8} (v : List UInt8) (hu : 10 ∉ u) (h : (rdV u).2 = true) : rj (u ++ 10 :: v) = ((rdV u).1 :: (rj v).1, u.length + 1 + (rj v).2) := by
  unfold rj
  conv => lhs; unfold rjN
  rw [cut_yes v hu]
  simp only
  rw [h, rjN_fuel _ (v.length + 1) v (by rw [spl_len]; omega) (by omega)]
  rfl
theorem rdV_text {l : List UInt8} (h : (rdV l).2 = true) : l ≠ [] ∧ dtD (rdV l).1 = l := by
  unfold rdV at h ⊢
  cases hw : rdW l with
  | none => rw [hw] at h; cases h
  | some d =>
    obtain ⟨kd, a, b, x⟩ := d
    rw [hw] at h
    simp only at h ⊢
    split at h
    · rename_i h1
      rw [if_pos h1]
      exact h1
    · cases h
theorem rdV_of {d : Dl} (h : dtD d ≠ []) : rdV (dtD d) = (d, true) := rdV_yes (kd := d.1) (a := d.2.1) (b := d.2.2.1) (x := d.2.2.2) h rfl
theorem dtD_nl {d : Dl} (h : dtD d ≠ []) : 10 ∉ dtD d := dt_nl (dt_of h)
/-- what is read is what was written -/
theorem rj_lns : ∀ {ds : List Dl}, (∀ d ∈ ds, dtD d ≠ []) → rj (lns ds) = (ds, (lns ds).length)
  | [], _ => rfl
  | d :: r, h => by
    have hd := h d List.mem_cons_self
    rw [lns_cons, rj_more _ (dtD_nl hd) (by rw [rdV_of hd]), rdV_of hd, rj_lns (fun x hx => h x (List.mem_cons_of_mem _ hx)), spl_len]
theorem rj_text : ∀ (n : Nat) (l : List UInt8), l.length ≤ n → (∀ d ∈ (rj l).1, dtD d ≠ []) ∧ lns (rj l).1 = l.take (rj l).2 ∧ (rj l).2 ≤ l.length
  | 0, l, hn => by
    rw [List.length_eq_zero_iff.1 (Nat.le_zero.1 hn)]
    exact ⟨fun d hd => absurd hd List.not_mem_nil, rfl, Nat.zero_le _⟩
  | n + 1, l, hn => by
    rcases spl_any 10 l with ⟨h, _, _⟩ | ⟨u, v, hu, rfl, _, _⟩
    · rw [rj_none h]; exact ⟨fun d hd => absurd hd List.not_mem_nil, rfl, Nat.zero_le _⟩
    · cases hr : (rdV u).2 with
      | false => rw [rj_bad v hu hr]; exact ⟨fun d hd => absurd hd List.not_mem_nil, rfl, Nat.zero_le _⟩
      | true =>
        rw [spl_len] at hn
        obtain ⟨h0, h1, h2⟩ := rj_text n v (by omega)
        obtain ⟨t1, t2⟩ := rdV_text hr
        rw [rj_more v hu hr]
        refine ⟨fun d hd => ?_, ?_, by rw [spl_len]; simp only; omega⟩
        · rcases List.mem_cons.1 hd with rfl | hd
          · rw [t2]; exact t1
          · exact h0 d hd
        · rw [lns_cons, t2, h1]
          simp only
          rw [List.take_append, List.take_of_length_le (show u.length ≤ u.length + 1 + (rj v).2 by omega), show u.length + 1 + (rj v).2 - u.length = (rj v).2 + 1 by omega, List.take_succ_cons]
/-- of a beginning the first ones are read -/
theorem rj_take : ∀ (n : Nat) (l : List UInt8) (k : Nat), l.length ≤ n → (∃ j, j ≤ (rj l).1.length ∧ (rj (l.take k)).1 = (rj l).1.take j) ∧ (rj (l.take k)).2 ≤ k
  | 0, l, k, hn => by
    rw [List.length_eq_zero_iff.1 (Nat.le_zero.1 hn), List.take_nil]
    exact ⟨⟨0, Nat.zero_le _, rfl⟩, Nat.zero_le _⟩
  | n + 1, l, k, hn => by
    rcases spl_any 10 l with ⟨h, _, _⟩ | ⟨u, v, hu, rfl, _, _⟩
    · have h' : 10 ∉ l.take k := fun hm => h (List.mem_of_mem_take hm)
      rw [rj_none h, rj_none h']
      exact ⟨⟨0, Nat.le_refl _, rfl⟩, Nat.zero_le _⟩
    · by_cases hk : k ≤ u.length
      · have h' : 10 ∉ (u ++ 10 :: v).take k := fun hm => hu (by rw [List.take_append, show k - u.length = 0 by omega, List.take_zero, List.append_nil] at hm; exact List.mem_of_mem_take hm)
        rw [rj_none h']
        exact ⟨⟨0, Nat.zero_le _, rfl⟩, Nat.zero_le _⟩
      · have e : (u ++ 10 :: v).take k = u ++ 10 :: v.take (k - u.length - 1) := by
          rw [List.take_append, List.take_of_length_le (by omega), show k - u.length = (k - u.length - 1) + 1 by omega, List.take_succ_cons, Nat.add_sub_cancel]
        rw [e]
        cases hr : (rdV u).2 with
        | false => rw [rj_bad _ hu hr, rj_bad _ hu hr]; exact ⟨⟨0, Nat.zero_le _, rfl⟩, Nat.zero_le _⟩
        | true =>
          rw [spl_len] at hn
          obtain ⟨⟨j, hj, h1⟩, h2⟩ := rj_take n v (k - u.length - 1) (by omega)
          rw [rj_more _ hu hr, rj_more _ hu hr]
          refine ⟨⟨j + 1, by simp only [List.length_cons]; omega, ?_⟩, ?_⟩
          · simp only; rw [h1, List.take_succ_cons]
          · simp only; omega
theorem dtD_len (d : Dl) : (dtD d).length ≤ 20 := by
  by_cases h : dtD d = []
  · rw [h]; exact Nat.zero_le _
  · exact (dt_len (dt_of h)).1
theorem lns_len : ∀ ds : List Dl, (lns ds).length ≤ 21 * ds.length
  | [] => Nat.zero_le _
  | d :: r => by
    have := lns_len r
    have := dtD_len d
    rw [lns_cons, spl_len, List.length_cons]
    omega
theorem rj_len : ∀ (n : Nat) (l : List UInt8), l.length ≤ n → (rj l).1.length ≤ l.length ∧ (rj l).2 ≤ l.length
  | 0, l, h => by
    rw [List.length_eq_zero_iff.1 (Nat.le_zero.1 h)]
    exact ⟨Nat.le_refl _, Nat.le_refl _⟩
  | n + 1, l, h => by
    rcases spl_any 10 l with ⟨h0, _, _⟩ | ⟨u, v, hu, rfl, _, _⟩
    · rw [rj_none h0]; exact ⟨Nat.zero_le _, Nat.zero_le _⟩
    · rw [spl_len] at h ⊢
      cases hr : (rdV u).2 with
      | false => rw [rj_bad v hu hr]; exact ⟨Nat.zero_le _, Nat.zero_le _⟩
      | true =>
        have := rj_len n v (by omega)
        rw [rj_more v hu hr]
        simp only [List.length_cons]
        omega
end Go.Proofs.YtoinlkdmfclnbaaGreatDoor
