/- Walks: slices.Clone at []int, DeskNew (impl and spec), sameRows, sameDesk, noDesk; the law FnDeskNew (walk). -/
import Derived.Test.YtpbpkdkjjbhjoaaW19
import Derived.Test.YtpbpkdkjjbhjoaaW22
import Derived.Lib.LazyBuf
namespace Go.Proofs.Ytpbpkdkjjbhjoaa
set_option linter.unusedVariables false
open Go.RowKit

/-- An append of a whole row to an empty row of the call's own, as one step of a walk. -/
theorem app_row {ops : Array Oper} {rest : List Oper} {o : Oper} {a : Act} {Q : Exit → Act → World → Prop} (w : World) (hgd : o.guard = none) (s x : Operand)
    (ho : o.op = .call { callee := .builtin .append, args := #[s, x], argTypes := #[23, 23] })
    (B : Nat) (v : Value) (hs : a.eval s = v) (hown : OwnV w B v []) (A : Option Addr) (n c : Nat) (xs : List Int) (hx : a.eval x = .slice A n c) (hr : Rd w w.heap.size A n c xs) (h0 : 0 < n)
    (hlen : n ≤ 1000000000000) (hB : B ≤ w.heap.size)
    (h : ∀ v' w', OwnV w' B v' xs → Below B w w' → wpList Try.prog ops Q rest (a.put o.dst v') w') :
    wpList Try.prog ops Q (o :: rest) a w := by
  obtain ⟨i0, hi, hz0, hz1, hz2⟩ := info_parts int_info
  obtain ⟨b, off, rfl, hb, hcell⟩ := hr.2.2.2 h0
  have hl := hr.len
  refine wpList_append_own _ hgd s x 23 ho B 3 i0 (.int .i64 0) 1 8 Try.underlying23 hi hz0 hz1 hz2 rfl (by decide) v 0 [] hs (by simpa [OwnV] using hown) ⟨b, off, none⟩ n c (xs.map (Value.int .i64)) hx (by simp [hl]) (fun j u hj => ?_) (by simp [Value.oneCell']) (by unfold maxLen; omega) (by omega) (by simpa using hB) ?_
  · have hjn : j < n := by
      rcases Nat.lt_or_ge j (xs.map (Value.int .i64)).length with h' | h'
      · rw [List.length_map, hl] at h'; exact h'
      · rw [List.getElem?_eq_none h'] at hj; cases hj
    rw [Addr.add_lit, hcell j hjn]
    rw [List.getElem?_map, List.getElem?_eq_getElem (by omega)] at hj
    simp only [Option.map_some, Option.some.injEq] at hj
    rw [← hj, gI_get (by omega)]
  · intro v' w' hown' hg _
    refine h v' w' ?_ ((Below.refl B w).grown hg hB (fun k hk => (hown.lt k hk).1))
    unfold OwnV
    rw [hl]
    simpa using hown'
set_option maxHeartbeats 400000 in
theorem clone_c (A : Option Addr) (n c : Nat) (xs : List Int) (w : World) (h : Rd w w.heap.size A n c xs) (h0 : 0 < n) (hn : n ≤ 1000000000000) :
    Calls Try.prog 73 #[.slice A n c] w fun e w' => ∃ A' c', e = .returned (.slice A' n c') ∧ OwnIn w' w.heap.size w'.heap.size A' n c' xs ∧ Below w.heap.size w w' := by
  obtain ⟨b, off, rfl, hb, hcell⟩ := h.2.2.2 h0
  have hl := h.len
  have hb1 : Below w.heap.size w (w.alloc (.cells #[] 3)) := (Below.refl _ _).alloc (Nat.le_refl _) _
  have hO := OwnV.made w w.heap.size #[] (Nat.le_refl _) rfl
  have hrd := h.up hb1
  have hs1 := hb1.size
  have hnil : (binOp .eql 23 (.slice (some ⟨b, off, none⟩) n c) (.slice none 0 0)).run Try.prog w = .ok (.bool false) w := by
    apply Lib.run_eql_slice_nil
    exact Try.underlying23
  go_enter Try.func73, Try.ntmps73
  go_wp2_with (at_builtin; refine app_row (w.alloc (.cells #[] 3)) rfl _ _ rfl w.heap.size _ rfl hO (some ⟨b, off, none⟩) n c xs rfl hrd h0 hn hs1 ?_; intro v' w' hown' hb')
  obtain ⟨A', c', rfl, hown⟩ := hown'.form
  go_ret
  exact ⟨A', c', by rw [← hl]; rfl, by rw [← hl]; exact hown.inn, hb1.trans hb'⟩

/-! ### DeskNew -/
def NewOut (w : World) (xs : List Int) (e : Ending) (w' : World) : Prop :=
  ∃ A n c, e = .returned (.tuple #[.agg #[.slice A n c, .slice none 0 0], .bool (mapOk xs)]) ∧ OwnIn w' w.heap.size w'.heap.size A n c (if mapOk xs then xs else []) ∧ Below w.heap.size w w'
theorem mapOk_bounds {xs : List Int} (h : mapOk xs = true) : 1 ≤ xs.length ∧ xs.length ≤ 7 := by
  unfold mapOk at h
  simp only [Bool.and_eq_true, decide_eq_true_eq] at h
  exact h.1
set_option maxRecDepth 100000 in
set_option maxHeartbeats 800000 in
theorem deskNew_c (A : Option Addr) (n c : Nat) (xs : List Int) (w : World) (h : Rd w w.heap.size A n c xs) :
    Calls Try.prog 38 #[.slice A n c] w (NewOut w xs) := by
  have hr := Two.made w 41 (.slice none 0 0) (.slice none 0 0)
  have hb1 : Below w.heap.size w (w.alloc (.cells #[.slice none 0 0, .slice none 0 0] 41)) := (Below.refl _ _).alloc (Nat.le_refl _) _
  have h1 := h.up hb1
  have hl := h.len
  rcases hm : mapOk xs with _ | _
  · have hend := hr
    have hpost : NewOut w xs (.returned (.tuple #[.agg #[.slice none 0 0, .slice none 0 0], .bool false])) (w.alloc (.cells #[.slice none 0 0, .slice none 0 0] 41)) :=
      ⟨none, 0, 0, by rw [hm], by rw [hm]; exact OwnIn.nil_ _ _ _, hb1⟩
    have HP := Lib.hid hpost
    have HE := Lib.hid hend
    clear hpost hend
    go_enter Try.func38, Try.ntmps38
    go_wp2_with (go_at_call 50; refine (mapOk_c _ _ _ _ _ h1).mono ?_; rintro e w' ⟨rfl, rfl⟩)
    (try simp only [Exit.inBlock, Exit.then])
    refine bodyPost_ret (v := .tuple #[.agg #[.slice none 0 0, .slice none 0 0], .bool false]) ?_ rfl HP.out
    exact Eq.trans (results_two_tmp (p := 2) (u := 3) rfl _ _ w.heap.size _ _ _ rfl HE.out Try.underlying41 rfl desk_size) rfl
  · have hbd := mapOk_bounds hm
    go_enter Try.func38, Try.ntmps38
    go_wp2_with (go_at_call 50; refine (mapOk_c _ _ _ _ _ h1).mono ?_; rintro e w' ⟨rfl, rfl⟩)
    generalize w.alloc (.cells #[.slice none 0 0, .slice none 0 0] 41) = w1 at *
    refine (clone_c A n c xs _ h1 (by omega) (by omega)).mono ?_
    rintro e w2 ⟨A2, c2, rfl, hO, hb2⟩
    have hr2 := hr.up hb2
    have hs1 := hb1.size
    have hw := hr.1
    have hend := (hr2.set0 (.slice A2 n c2)).set1 (.slice none 0 0)
    have hch : Chg w.heap.size (w.heap.size + 1) w2 ((w2.setCell ⟨w.heap.size, 0, none⟩ (.slice A2 n c2)).setCell ⟨w.heap.size, 1, none⟩ (.slice none 0 0)) :=
      ((Chg.refl _ _ w2).setCell (p := ⟨w.heap.size, 0, none⟩) (Nat.le_refl w.heap.size) (Nat.lt_succ_self w.heap.size) _).setCell (p := ⟨w.heap.size, 1, none⟩) (Nat.le_refl w.heap.size) (Nat.lt_succ_self w.heap.size) _
    have hpost : NewOut w xs (.returned (.tuple #[.agg #[.slice A2 n c2, .slice none 0 0], .bool true])) ((w2.setCell ⟨w.heap.size, 0, none⟩ (.slice A2 n c2)).setCell ⟨w.heap.size, 1, none⟩ (.slice none 0 0)) :=
      ⟨A2, n, c2, by rw [hm], by rw [hm]; exact (hO.chg hch (.inr (by omega))).wide (by omega) hch.size, (hb1.trans (hb2.mono hs1)).trans (hch.belowLo (Nat.le_refl _) (by have := hb2.size; omega))⟩
    have HP := Lib.hid hpost
    have HE := Lib.hid hend
    obtain ⟨hg, h20, h21, hf0, hf1⟩ := hr2
    clear hpost hend hch hO
    go_wp2_with fail
    (try simp only [Exit.inBlock, Exit.then])
    refine bodyPost_ret (v := .tuple #[.agg #[.slice A2 n c2, .slice none 0 0], .bool true]) ?_ rfl HP.out
    exact Eq.trans (results_two_tmp (p := 2) (u := 3) rfl _ _ w.heap.size _ _ _ rfl HE.out Try.underlying41 rfl desk_size) rfl

set_option maxRecDepth 100000 in
set_option maxHeartbeats 800000 in
theorem sameRows_c (A A' : Option Addr) (n c n' c' : Nat) (xs ys : List (List Int)) (w : World) (h : RdR w w.heap.size A n c xs) (h' : RdR w w.heap.size A' n' c' ys) :
    Calls Try.prog 77 #[.slice A n c, .slice A' n' c'] w fun e w' => e = .returned (.bool (eqBB xs ys)) ∧ ∃ m, w' = w.drewN m := by
  have HL := Lib.hid h.len
  have HL' := Lib.hid h'.len
  have hm := h.max
  have hc := h.cap
  have hm' := h'.max
  have hc' := h'.cap
  unfold maxLen at hm hm'
  by_cases hne : n = n'
  · subst hne
    go_enter Try.func77, Try.ntmps77
    go_wp2
    go_loopw [5] (fun i wr => ∃ k : Nat, k ≤ n ∧ i = .int .i64 k ∧ (∀ j, j < k → gR xs j = gR ys j) ∧ ∃ m, wr = w.drewN m) (fun i _ => n - (intOf i).toNat)
    case atStart => exact ⟨0, Nat.zero_le _, rfl, fun j hj => absurd hj (Nat.not_lt_zero _), 0, rfl⟩
    case round =>
      obtain ⟨k, hk, rfl, hall, m, rfl⟩ := hrel
      have HA := Lib.hid hall
      clear hall
      by_cases hlt : k < n
      · obtain ⟨b, off, A1, n1, c1, rfl, hb, hcell, hr⟩ := h.at_ hlt
        obtain ⟨b', off', A2, n2, c2, rfl, hb', hcell', hr'⟩ := h'.at_ hlt
        rcases he : eqB (gR xs k) (gR ys k) with _ | _
        · have HE := Lib.hid (of_decide_eq_false he)
          go_wp2
          go_quiet ((go_at_call 51; exact qA (sameInts_c A1 A2 n1 c1 n2 c2 (gR xs k) (gR ys k) _ (hr.dn _) (hr'.dn _))))
          go_wp2
          go_ret
          exact ⟨boolEnd (decide_eq_false (fun e => HE.out (by rw [e]))).symm, _, World.drewN_drewN ..⟩
        · have HE := Lib.hid (of_decide_eq_true he)
          go_wp2
          go_quiet ((go_at_call 51; exact qA (sameInts_c A1 A2 n1 c1 n2 c2 (gR xs k) (gR ys k) _ (hr.dn _) (hr'.dn _))))
          go_wp2
          go_roundw
          case rel => exact ⟨k + 1, by omega, by go_num, fun j hj => by
            rcases Nat.lt_or_ge j k with h' | h'
            · exact HA.out j h'
            · obtain rfl : j = k := by omega
              exact HE.out, _, rfl⟩
          case measure => simp [intOf]; omega
      · go_wp2
        go_ret
        exact ⟨boolEnd (decide_eq_true (eq_of_gR (by rw [HL.out, HL'.out]) (fun j hj => HA.out j (by have := HL.out; omega)))).symm, _, rfl⟩
  · have hq : ((n : Int) != (n' : Int)) = true := by simp; omega
    go_enter Try.func77, Try.ntmps77
    go_wp2
    go_ret
    exact ⟨boolEnd (decide_eq_false (fun e => hne (by rw [← HL.out, ← HL'.out, e]))).symm, 0, rfl⟩


end Go.Proofs.Ytpbpkdkjjbhjoaa
