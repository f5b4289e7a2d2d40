/- Walks: slices.Clone and slices.Sort at []string, inOrder[string]. -/
import Derived.Test.YtnpjelekpkgbpaaJ1
import Derived.Test.YtnpjelekpkgbpaaV5
import Derived.Test.YtnpjelekpkgbpaaSh
import Derived.Sort.OwnSorted
import Derived.Lib.OwnBridge
namespace Go.Proofs.Ytnpjelekpkgbpaa
set_option linter.unusedVariables false
open Go.RowKit Go.Sort Go.Shelf

/-- An append of a whole row of texts to an empty row of the call's own, as one step of a walk. -/
theorem app_texts {ops : Array Oper} {rest : List Oper} {o : Oper} {a : Act} {Q : Exit → Act → World → Prop} (w : World) (hgd : o.guard = none) (s x : Operand)
    (ho : o.op = .call { callee := .builtin .append, args := #[s, x], argTypes := #[90, 90] })
    (B : Nat) (v : Value) (hs : a.eval s = v) (hown : OwnS w B v []) (A : Option Addr) (n c : Nat) (ts : List ByteArray) (hx : a.eval x = .slice A n c) (hr : RdT w w.heap.size A n c ts) (h0 : 0 < n)
    (hlen : n ≤ 1000000000000) (hB : B ≤ w.heap.size)
    (h : ∀ v' w', OwnS w' B v' ts → Below B w w' → wpList Try.prog ops Q rest (a.put o.dst v') w') :
    wpList Try.prog ops Q (o :: rest) a w := by
  obtain ⟨i0, hi, hz0, hz1, hz2⟩ := info_parts text_info
  obtain ⟨b, off, rfl, hb, hcell⟩ := hr.2.2.2 h0
  have hl := hr.len
  refine wpList_append_own _ hgd s x 90 ho B 9 i0 (.string ⟨#[]⟩) 1 16 Try.underlying90 hi hz0 hz1 hz2 rfl (by decide) v 0 [] hs (by simpa [OwnS] using hown) ⟨b, off, none⟩ n c (ts.map Value.string) hx (by simp [hl]) (fun j u hj => ?_) (by simp [Value.oneCell']) (by unfold maxLen; omega) (by omega) (by omega) ?_
  · have hjn : j < n := by
      rcases Nat.lt_or_ge j (ts.map Value.string).length with h' | h'
      · rw [List.length_map, hl] at h'; exact h'
      · rw [List.getElem?_eq_none h'] at hj; cases hj
    rw [Addr.add_lit, hcell j hjn]
    rw [List.getElem?_map, List.getElem?_eq_getElem (by omega)] at hj
    simp only [Option.map_some, Option.some.injEq] at hj
    rw [← hj, gT_get (by omega)]
  · intro v' w' hown' hg _
    refine h v' w' ?_ ((Below.refl B w).grown hg hB (fun k hk => (hown.lt k hk).1))
    unfold OwnS
    rw [hl]
    simpa using hown'
set_option maxHeartbeats 400000 in
theorem cloneS_c (A : Option Addr) (n c : Nat) (ts : List ByteArray) (w : World) (h : RdT w w.heap.size A n c ts) (h0 : 0 < n) (hn : n ≤ 1000000000000) :
    Calls Try.prog 97 #[.slice A n c] w fun e w' => ∃ v, e = .returned v ∧ OwnS w' w.heap.size v ts ∧ Below w.heap.size w w' := by
  obtain ⟨b, off, rfl, hb, hcell⟩ := h.2.2.2 h0
  have hl := h.len
  have hb1 : Below w.heap.size w (w.alloc (.cells #[] 9)) := (Below.refl _ _).alloc (Nat.le_refl _) _
  have hO := OwnS.made w w.heap.size #[] (Nat.le_refl _) rfl
  have hrd := h.up hb1
  have hs1 := hb1.size
  have hnil : (binOp .eql 90 (.slice (some ⟨b, off, none⟩) n c) (.slice none 0 0)).run Try.prog w = .ok (.bool false) w := by
    apply Lib.run_eql_slice_nil
    exact Try.underlying90
  go_enter Try.func97, Try.ntmps97
  go_wp2_with (at_builtin; refine app_texts (w.alloc (.cells #[] 9)) rfl _ _ rfl w.heap.size _ rfl hO (some ⟨b, off, none⟩) n c ts rfl hrd h0 hn hs1 ?_; intro v' w' hown' hb')
  go_ret
  exact ⟨v', rfl, hown', hb1.trans hb'⟩
theorem cloneS_nil (w : World) : Calls Try.prog 97 #[.slice none 0 0] w fun e w' => e = .returned (.slice none 0 0) ∧ w' = w := by
  have hnil : (binOp .eql 90 (.slice none 0 0) (.slice none 0 0)).run Try.prog w = .ok (.bool true) w := by
    apply Lib.run_eql_slice_nil
    exact Try.underlying90
  go_enter Try.func97, Try.ntmps97
  go_wp2
  go_ret
  exact ⟨rfl, rfl⟩
theorem txs_enc (l : List Tx) : (txs l).map Value.string = l.map encStr := by
  unfold txs; rw [List.map_map]; exact List.map_congr_left fun x _ => rfl
theorem sortS_c (B : Nat) (v : Value) (l : List Tx) (w : World) (h : OwnS w B v (txs l)) (hl : l.length ≤ 1000000000000) (hB : B ≤ w.heap.size) :
    Calls Try.prog 98 #[v] w fun e w' => e = .returned (.tuple #[]) ∧ OwnS w' B v (txs (srt l)) ∧ Below B w w' := by
  have h' : w.ownsRow B 9 1 v l.length (l.map encStr) := by
    have := h; unfold OwnS at this; rw [txs_len, txs_enc] at this; exact this
  have hsl : (srt l).length = l.length := List.length_mergeSort l
  rcases h'.2 with ⟨rfl, h0⟩ | ⟨g, cap, cur, rfl, hb, hg, hn, hm, hs, ht⟩
  · have e : l = [] := by simpa using h0
    subst e
    exact (AnyM.slices_Sort_string_none sortStrA none 0 w).mono fun e w' ⟨h1, h2⟩ => ⟨h1, by subst h2; rw [show srt [] = [] from by simp [srt]]; exact OwnS.nil_ _ _, by subst h2; exact Below.refl _ _⟩
  · have hlt : g < w.heap.size := (Array.getElem?_eq_some_iff.1 hg).1
    refine (AnyM.slices_Sort_string sortStrA g 0 cap l w (holds_of_block hg (by simpa using ht)) hlt (by omega)).mono ?_
    rintro e w' ⟨rfl, n, os, rfl⟩
    refine ⟨rfl, ?_, (Below.refl B w).grown (grownBy_sorted _) hB (fun k hk => by cases hk; exact hb)⟩
    have := ownsRow_sorted (w := w) (n := n) (os := os) (ss := l) (ts := srt l) hsl hb hg hn hm hs
    unfold OwnS
    rw [txs_len, txs_enc, hsl]
    exact this
def InO (w : World) (l : List Tx) (e : Ending) (w' : World) : Prop := ∃ v, e = .returned v ∧ OwnS w' w.heap.size v (txs (srt l)) ∧ Below w.heap.size w w'
theorem inOrder_c (A : Option Addr) (n c : Nat) (l : List Tx) (w : World) (h : RdT w w.heap.size A n c (txs l)) (hz : n = 0 → A = none ∧ c = 0) (hn : n ≤ 1000) :
    Calls Try.prog 83 #[.slice A n c] w (InO w l) := by
  have hl := h.len
  rw [txs_len] at hl
  rcases Nat.eq_zero_or_pos n with h0 | h0
  · obtain ⟨rfl, rfl⟩ := hz h0
    subst h0
    have e : l = [] := List.eq_nil_of_length_eq_zero hl
    subst e
    go_enter Try.func83, Try.ntmps83
    go_wp2_with fail
    refine (cloneS_nil _).mono ?_
    rintro e w1 ⟨rfl, rfl⟩
    go_wp2_with fail
    refine (sortS_c w1.heap.size _ [] _ (OwnS.nil_ _ _) (by simp) (Nat.le_refl _)).mono ?_
    rintro e w2 ⟨rfl, hO, hb⟩
    go_wp2_with fail
    go_ret
    exact ⟨_, rfl, hO, hb⟩
  · go_enter Try.func83, Try.ntmps83
    go_wp2_with fail
    refine (cloneS_c A n c _ _ h h0 (by omega)).mono ?_
    rintro e w1 ⟨v, rfl, hO1, hb1⟩
    go_wp2_with fail
    refine (sortS_c w.heap.size _ l _ hO1 (by omega) hb1.size).mono ?_
    rintro e w2 ⟨rfl, hO, hb⟩
    go_wp2_with fail
    go_ret
    exact ⟨_, rfl, hO, hb1.trans hb⟩
end Go.Proofs.Ytnpjelekpkgbpaa
