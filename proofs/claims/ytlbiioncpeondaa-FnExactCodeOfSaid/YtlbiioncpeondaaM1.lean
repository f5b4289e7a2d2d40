/- Plain arithmetic of maps and sets: no program in sight. -/
import Derived.Test.YtlbiioncpeondaaCore
namespace Go.Proofs.Ytlbiioncpeondaa
set_option linter.unusedVariables false

def inB (x lo hi : Int) : Bool := decide (lo ≤ x ∧ x ≤ hi)
def hasB (n : Nat) (t : Int) : Bool := decide (0 ≤ t ∧ t < (n : Int))
def allHas (n : Nat) (xs : List Int) : Bool := xs.all (hasB n)
def mapOk (xs : List Int) : Bool := decide (1 ≤ xs.length ∧ xs.length ≤ 7) && allHas xs.length xs

theorem hasB_iff {n : Nat} {t : Int} : hasB n t = true ↔ 0 ≤ t ∧ t < (n : Int) := by simp [hasB]
theorem hasB_not {n : Nat} {t : Int} : hasB n t = false ↔ ¬ (0 ≤ t ∧ t < (n : Int)) := by simp [hasB]
theorem inB_iff {x lo hi : Int} : inB x lo hi = true ↔ lo ≤ x ∧ x ≤ hi := by simp [inB]
theorem inB_not {x lo hi : Int} : inB x lo hi = false ↔ ¬ (lo ≤ x ∧ x ≤ hi) := by simp [inB]
theorem hasB_inB {n : Nat} {t : Int} : inB t 0 ((n : Int) - 1) = hasB n t := by
  unfold inB hasB; congr 1; simp only [eq_iff_iff]; omega
theorem gI_get {xs : List Int} {k : Nat} (hk : k < xs.length) : gI xs k = xs[k] := by simp [gI, List.getD, List.getElem?_eq_getElem hk]
theorem allHas_iff {n : Nat} {xs : List Int} : allHas n xs = true ↔ ∀ k, k < xs.length → hasB n (gI xs k) = true := by
  unfold allHas
  rw [List.all_eq_true]
  constructor
  · intro h k hk; rw [gI_get hk]; exact h _ (List.getElem_mem hk)
  · intro h x hx
    obtain ⟨k, hk, rfl⟩ := List.mem_iff_getElem.1 hx
    have := h k hk
    rwa [gI_get hk] at this
theorem allHas_not {n : Nat} {xs : List Int} {k : Nat} (hk : k < xs.length) (h : hasB n (gI xs k) = false) : allHas n xs = false := by
  rcases e : allHas n xs with _ | _
  · rfl
  · have := allHas_iff.1 e k hk
    rw [h] at this; cases this
theorem mapOk_all {xs : List Int} (h1 : 1 ≤ xs.length) (h2 : xs.length ≤ 7) : mapOk xs = allHas xs.length xs := by simp [mapOk, h1, h2]
theorem mapOk_len {xs : List Int} (h : ¬ (1 ≤ xs.length ∧ xs.length ≤ 7)) : mapOk xs = false := by
  unfold mapOk
  rw [decide_eq_false h]; rfl
theorem copy_step (xs : List Int) (n k : Nat) (hn : xs.length = n) (hk : k < n) :
    ((xs.take k).map (Value.int .i64) ++ List.replicate (n - k) (Value.int .i64 0)).set k (.int .i64 (gI xs k)) = (xs.take (k + 1)).map (Value.int .i64) ++ List.replicate (n - (k + 1)) (Value.int .i64 0) := by
  have hl : ((xs.take k).map (Value.int .i64)).length = k := by simp; omega
  rw [List.set_append_right _ _ (by omega), hl, Nat.sub_self]
  have e : n - k = (n - (k + 1)) + 1 := by omega
  rw [e, List.replicate_succ, List.set_cons_zero, List.take_succ_eq_append_getElem (by omega), List.map_append, gI_get (by omega)]
  simp
theorem copy_old (xs : List Int) (n k : Nat) (hn : xs.length = n) (hk : k < n) :
    ((xs.take k).map (Value.int .i64) ++ List.replicate (n - k) (Value.int .i64 0))[k]? = some (.int .i64 0) := by
  have hl : ((xs.take k).map (Value.int .i64)).length = k := by simp; omega
  rw [List.getElem?_append_right (by omega), hl, Nat.sub_self]
  have e : n - k = (n - (k + 1)) + 1 := by omega
  rw [e, List.replicate_succ]
  rfl
end Go.Proofs.Ytlbiioncpeondaa
