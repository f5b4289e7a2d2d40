/- Walk: TreeText (impl). -/
import Derived.Test.YtnpjelekpkgbpaaW132
import Derived.Test.YtnpjelekpkgbpaaW133
namespace Go.Proofs.Ytnpjelekpkgbpaa
set_option linter.unusedVariables false
open Go.RowKit Go.Shelf
attribute [local go_sem] Oper.semAt_some

theorem kidT_len (f : List Nat) (i k : Nat) (pre : List (Led f i)) : (kidT f i k pre).length ≤ pre.length := by unfold kidT; rw [List.length_map]; exact List.length_filter_le _ _
theorem tl_min {f : List Nat} (hf : MapN f) {k : Nat} (hk : k < f.length) (a : Nat) (ho : onL f (it f a k) = true) : tl f k ≤ a := by
  obtain ⟨p, hp, e⟩ := (onL_iff hf (it_lt hf hk a)).1 ho
  rw [← it_add] at e
  rcases Nat.lt_or_ge a (tl f k) with h | h
  · exfalso
    -- it_(a) comes again at a + p*q, far behind the tail
    have hq : ∀ q, it f (a + q * p) k = it f a k := fun q => by
      induction q with
      | zero => simp
      | succ q ih => rw [show a + (q + 1) * p = q * p + (p + a) by rw [Nat.add_mul]; omega, it_add, e, ← it_add, Nat.add_comm, ih]
    have hge : tl f k ≤ a + tl f k * p := by have := Nat.mul_le_mul_left (tl f k) hp; omega
    have h1 := it_mod hf hk _ hge
    rw [hq] at h1
    have hlt := Nat.mod_lt (a + tl f k * p - tl f k) (ll_pos hf hk)
    have htl := (tl_is hf hk).1
    have := orb_inj (wl_isWay hf hk).nodup (a := a) (b := tl f k + (a + tl f k * p - tl f k) % ll f k) (by omega) (by unfold ll at hlt ⊢; omega) h1
    omega
  · exact h
theorem tl_kid {f : List Nat} (hf : MapN f) {i x : Nat} (hi : i < f.length) (hx : x < f.length) (e : nx f x = i) (ho : onL f x = false) : tl f x = tl f i + 1 := by
  have h0 : tl f x ≠ 0 := by intro h; unfold onL at ho; rw [h] at ho; simp at ho
  have hs : ∀ a, it f a i = it f (a + 1) x := fun a => by rw [it_add, it_one, e]
  refine Nat.le_antisymm ?_ ?_
  · exact tl_min hf hx (tl f i + 1) (by rw [← hs]; exact onL_it hf hi _ (Nat.le_refl _))
  · have := tl_min hf hi (tl f x - 1) (by rw [hs, show tl f x - 1 + 1 = tl f x by omega]; exact onL_it hf hx _ (Nat.le_refl _))
    omega
theorem Boxed.thru {w7 w8 : World} {B B' n₀ k : Nat} {t e : TypeId} {u v : Value} {xs : List Value} {tmp : Obj} (h : Boxed w7 B t u) (hte : t ≠ e) (hrow : w7.ownsRow n₀ e 1 v k xs) (hgrow : (w7.alloc tmp).grownBy w8 v.ownBlock) (hne : B ≠ B') (x : Value) : Boxed (w8.setCell ⟨B', 0, none⟩ x) B t u :=
  ((h.alloc tmp).kept hgrow (h.not_row hte hrow)).other hne x
theorem str_br {t J : Tx} (h : t = [40] ++ J ++ [41]) : (⟨#[40]⟩ ++ ⟨J.toArray⟩ ++ ⟨#[41]⟩ : ByteArray) = ⟨t.toArray⟩ := by
  rw [h]; apply ByteArray.ext; simp
theorem txs_app (l : List Tx) (t : Tx) : txs (l ++ [t]) = txs l ++ [⟨t.toArray⟩] := by unfold txs; rw [List.map_append]; rfl
theorem kid_row {W : World} {n₀ B : Nat} {v : Value} {l l' : List Tx} {t : Tx} (he : l' = l ++ [t]) (hv : Boxed W B 90 v) (hr : W.ownsRow n₀ 9 1 v ((txs l).length + 1) ((txs l).map Value.string ++ [.string ⟨t.toArray⟩])) :
    ∃ v, Boxed W B 90 v ∧ W.ownsRow n₀ 9 1 v (txs l').length ((txs l').map Value.string) ∧ (l' = [] → v = .slice none 0 0) :=
  ⟨v, hv, by rw [he, txs_app, List.length_append, List.map_append]; exact hr, fun h => by rw [he] at h; simp at h⟩
theorem step_in {F : Fence} {n : Nat} {P : Program} {ops : Array Oper} {o : Oper} {a : Act} {w : World} {K : Act → World → Prop} {Q : Exit → Act → World → Prop} {E : Prop} (hgd : o.guard = none) (h : Oper.wpIn F n P o a w K Q) :
    if Region.wanted o (yielded ops a.tmps) = true then Oper.wpIn F n P o a w K Q else E := by
  rw [if_pos (by simp [Region.wanted, hgd])]
  exact h
theorem step_appIn {F : Fence} {n : Nat} {P : Program} {ops : Array Oper} {o : Oper} {a : Act} {w : World} {K : Act → World → Prop} {Q : Exit → Act → World → Prop} {E : Prop} (hgd : o.guard = none) (s x : Operand) {t : TypeId}
    (hop : o.op = Op.call { callee := Callee.builtin Builtin.append, args := #[s, x], argTypes := #[t, t] }) {u y v' : Value} {w' : World} (hrun : (Builtin.append_ #[t, t] o.type #[u, y]).run P w = .ok v' w') (hs : a.eval s = u) (hx : a.eval x = y) (h : K (a.put o.dst v') w') :
    if Region.wanted o (yielded ops a.tmps) = true then Oper.wpIn F n P o a w K Q else E := by
  refine step_in hgd ?_
  unfold Oper.wpIn
  refine ⟨?_, ?_⟩
  · simp [Oper.about, hop, resolve, Target.leads, Sem.run_pure]
  · rw [Oper.semAt_plain F _ _ (by rw [hop]; intro c hc'; cases hc')]
    simp [execOp, hop, resolve, invoke, builtin, hs, hx, hrun, Result.andThen]
    exact h
def Txt (w : World) (t : Tx) (e : Ending) (w' : World) : Prop := e = .returned (.string ⟨t.toArray⟩) ∧ Below w.heap.size w w'
theorem KeepsOthers.of_below {W W' : World} (h : Below W.heap.size W W') : KeepsOthers W W' :=
  ⟨h.size, fun k o hk _ => (h.block k (Array.getElem?_eq_some_iff.1 hk).1).trans hk⟩
theorem flat_len {ts : List Tx} {M : Nat} (h : ∀ t ∈ ts, t.length ≤ M) : ts.flatten.length ≤ ts.length * M := by
  induction ts with
  | nil => simp
  | cons x r ih =>
    have h1 := h x (by simp)
    have h2 := ih (fun t ht => h t (by simp [ht]))
    rw [List.flatten_cons, List.length_append, List.length_cons, Nat.add_mul]; omega
theorem srt_len (l : List Tx) : (srt l).length = l.length := List.length_mergeSort l
theorem srt_mem {l : List Tx} {t : Tx} : t ∈ srt l ↔ t ∈ l := (List.mergeSort_perm l leT).mem_iff
theorem kids_len (f : List Nat) (i : Nat) : (kids f i).length ≤ f.length := by
  have := List.length_filter_le (fun j => decide (nx f j = i) && !onL f j) (List.range f.length)
  rw [List.length_range] at this
  exact this
theorem kidJ_len {f : List Nat} (h7 : f.length ≤ 7) {k M : Nat} (h : ∀ i, (treeT f k i).length ≤ M) (i : Nat) : (Lib.join (srt ((kids f i).map (treeT f k))) []).length ≤ 7 * M := by
  rw [join_flat]
  have h1 := flat_len (ts := srt ((kids f i).map (treeT f k))) (M := M) (fun t ht => by
    rw [srt_mem, List.mem_map] at ht
    obtain ⟨j, _, rfl⟩ := ht
    exact h j)
  rw [srt_len, List.length_map] at h1
  have h2 := kids_len f i
  have h3 : (kids f i).length * M ≤ 7 * M := Nat.mul_le_mul_right M (by omega)
  omega
theorem treeT_len {f : List Nat} (h7 : f.length ≤ 7) : ∀ k i, (treeT f k i).length + 1 ≤ 9 ^ k
  | 0, i => by simp [treeT]
  | k + 1, i => by
    have ih := treeT_len h7 k
    have h1 := kidJ_len h7 (k := k) (M := 9 ^ k - 1) (fun j => by have := ih j; omega) i
    have h2 := ih 0
    have e : (treeT f (k + 1) i).length = (Lib.join (srt ((kids f i).map (treeT f k))) []).length + 2 := by
      rw [treeT, List.length_append, List.length_append]
      simp only [List.length_cons, List.length_nil]
      omega
    rw [e, Nat.pow_succ]; omega
theorem nine_le {k : Nat} (h : k ≤ 7) : 9 ^ k ≤ 4782969 := Nat.pow_le_pow_right (by omega) h
set_option maxRecDepth 100000 in
set_option maxHeartbeats 8000000 in
theorem treeText_c {f : List Nat} (hf : MapN f) : ∀ (k i : Nat), k ≤ 7 → i < f.length → f.length ≤ tl f i + k → ∀ (A : Option Addr) (c : Nat) (w : World), Rd w w.heap.size A f.length c (ints f) →
    Calls Try.prog 92 #[.slice A f.length c, .int .i64 (i : Int)] w (Txt w (treeT f k i))
  | 0, i, _, hi, ht, A, c, w, h => by have := tl_lt hf hi; omega
  | k + 1, i, hk7, hi, ht, A, c, w, h => by
    have IH := treeText_c hf k
    obtain ⟨i0, hI, hz0, hz1, hz2⟩ := info_parts text_info
    have hat := atOk_ints hf hi
    have h7 := hf.le7
    refine (callsIn_wide (n := 4)).1 ?_
    refine callsIn_of_wp_marks Try.func92 rfl trivial ?_ rfl
    simp only [Try.ntmps92, List.size_toArray, List.length_cons, List.length_nil, Nat.reduceAdd, Nat.reduceSub, Array.replicate_succ, Array.replicate_zero, List.push_toArray, List.append_toArray, List.nil_append, List.cons_append]
    have bF := Boxed.new w 22 (.slice A f.length c)
    have hB1 : Below w.heap.size w (w.alloc (.cells #[.slice A f.length c] 22)) := (Below.refl _ w).alloc (Nat.le_refl _) _
    have hR1 := h.up hB1
    have K1 := thingOk_c A f.length c (ints f) (i : Int) _ hR1
    rw [hat] at K1
    gi_wp2_with (refine ⟨trivial, ?_⟩; gi_at_call 69; refine (callsIn_wide.2 K1).mono ?_; rintro e w' ⟨rfl, rfl⟩)
    have hB2 : Below w.heap.size w ((w.alloc (.cells #[.slice A f.length c] 22)).alloc (.cells #[.slice none 0 0] 90)) := hB1.alloc (by simp) _
    have bF2 := bF.alloc (.cells #[.slice none 0 0] 90)
    have bP2 := Boxed.new (w.alloc (.cells #[.slice A f.length c] 22)) 90 (.slice none 0 0)
    rw [World.size_alloc] at bP2
    have hs2 : ((w.alloc (.cells #[.slice A f.length c] 22)).alloc (.cells #[.slice none 0 0] 90)).heap.size = w.heap.size + 2 := by simp
    have HS := Lib.hid (fromL_seq A c f i w.heap.size ((w.alloc (.cells #[.slice A f.length c] 22)).alloc (.cells #[.slice none 0 0] 90)) (h.below hB2) (by omega) (by rw [hs2]; omega))
    rw [hs2] at HS
    clear hB1 bF hR1 K1
    generalize (w.alloc (.cells #[.slice A f.length c] 22)).alloc (.cells #[.slice none 0 0] 90) = w2 at *
    refine ⟨trivial, (callsIn_wide.2 (fromSeq_c A f.length c (i : Int) w2)).mono ?_⟩
    rintro e w4 ⟨rfl, hw4⟩
    have hB4 : Below w.heap.size w w4 := by rw [hw4]; exact (hB2.alloc (by omega) _).alloc (by simp; omega) _
    have bF4 : Boxed w4 w.heap.size 22 (.slice A f.length c) := by rw [hw4]; exact (bF2.alloc _).alloc _
    have bP4 : Boxed w4 (w.heap.size + 1) 90 (.slice none 0 0) := by rw [hw4]; exact (bP2.alloc _).alloc _
    have bM4 : Boxed w4 (w.heap.size + 2) 88 (.slice A f.length c) := by rw [hw4, ← hs2]; exact (Boxed.new _ _ _).alloc _
    have bT4 : Boxed w4 (w.heap.size + 3) 3 (.int .i64 (i : Int)) := by
      have := Boxed.new (w2.alloc (.cells #[.slice A f.length c] 88)) 3 (.int .i64 (i : Int))
      rw [World.size_alloc, hs2] at this
      rw [hw4]; exact this
    have hz4 : w.heap.size + 4 ≤ w4.heap.size := by rw [hw4]; simp; omega
    rw [← hw4] at HS
    rw [hs2]
    clear hw4 hs2 bF2 bP2 hB2
    have hmax := h.max
    have hcp := h.cap
    unfold maxLen at hmax
    gi_wp2
    refine wpIn_rangeFunc_ownG rfl (by omega) (gf := 111) (lb := #[.pointer (some ⟨w.heap.size + 2, 0, none⟩), .pointer (some ⟨w.heap.size + 2 + 1, 0, none⟩)]) rfl trivial (enters_of Try.func111 (by kernel_rfl) rfl) HS.out KpB.trans (kpB_b (by omega) (by omega) (by omega)) (Below.refl _ _) (fun _ => rfl)
      (fun pre W => (∃ v, Boxed W (w.heap.size + 1) 90 v ∧ W.ownsRow w.heap.size 9 1 v (txs (kidT f i k pre)).length ((txs (kidT f i k pre)).map Value.string) ∧ (kidT f i k pre = [] → v = .slice none 0 0)) ∧ Boxed W w.heap.size 22 (.slice A f.length c) ∧ Boxed W (w.heap.size + 2) 88 (.slice A f.length c) ∧ Boxed W (w.heap.size + 2 + 1) 3 (.int .i64 (i : Int)) ∧ Below w.heap.size w W)
      (fun _ _ _ => False)
      (OwnFrom.and (Own.from (holdsRow_own w.heap.size (w.heap.size + 1) 90 9 1 (fun pre => (txs (kidT f i k pre)).length) (fun pre => (txs (kidT f i k pre)).map Value.string) (fun pre v => kidT f i k pre = [] → v = .slice none 0 0)) _)
        (OwnFrom.and (Own.from (boxed_own w.heap.size 22 (fun _ => .slice A f.length c)) _) (OwnFrom.and (Own.from (boxed_own (w.heap.size + 2) 88 (fun _ => .slice A f.length c)) _) (OwnFrom.and (Own.from (boxed_own (w.heap.size + 2 + 1) 3 (fun _ => .int .i64 (i : Int))) _) (ownFrom_below (Nat.le_refl _) (by omega))))))
      (fun _ _ _ _ _ hs _ _ => hs)
      ⟨⟨_, bP4, World.ownsRow_nil _ _ _ _, fun _ => rfl⟩, bF4, bM4, bT4, hB4⟩
      (fun x => { tmps := #[.slice A f.length c, .int .i64 (i : Int), .pointer (some ⟨w.heap.size, 0, none⟩), undef, .string ⟨#[]⟩, .pointer (some ⟨w.heap.size + 1, 0, none⟩), .int .i64 (x.1 : Int), .slice A f.length c, .int .i64 (i : Int), .bool true, .bool false, .slice A f.length c, .int .i64 (i : Int),
          .func (.func 111) #[] #[.pointer (some ⟨w.heap.size + 2, 0, none⟩), .pointer (some ⟨w.heap.size + 2 + 1, 0, none⟩)], .int .i64 (x.1 : Int), undef, undef, undef, undef, undef, undef, undef, undef, undef, undef, undef, undef, undef, undef, undef], defers := [] }) ?assign ?body ?done ?stop
    case assign =>
      intro l x W K hK
      dsimp only [encL]
      gi_wp2
      exact hK
    case body =>
      rintro l pre x W ⟨⟨v, hv, hrow, hnil⟩, bF, bM, bT, hB⟩ hlt
      have hx := x.2.1
      have hRW : Rd W W.heap.size A f.length c (ints f) := (h.below hB).more hB.size
      have hon : (tailI (ints f) (x.1 : Int) == 0) = onL f x.1 := by rw [tailI_ok hf hx]; unfold onL; rw [Bool.eq_iff_iff]; simp
      have KO := onLoop_c A f.length c (ints f) (x.1 : Int) _ hRW
      rw [hon] at KO
      have hcF := bF.cell
      have hBs := hB.size
      rcases ho : onL f x.1 with _ | _
      · rw [ho] at KO
        have hxl : f.length ≤ tl f x.1 + k := by
          have e : tl f x.1 = tl f i + 1 := tl_kid hf hi hx x.2.2 ho
          omega
        have hkl : (txs (kidT f i k pre)).length ≤ 100 := by rw [txs_len]; exact Nat.le_trans (kidT_len f i k pre) (Nat.le_of_lt hlt)
        have KT := fun (W' : World) (hr : Rd W' W'.heap.size A f.length c (ints f)) => IH x.1 (by omega) hx hxl A c W' hr
        have hE := kidT_snoc f i k pre x
        rw [ho, if_neg (by simp)] at hE
        have HE := Lib.hid hE
        have HN := Lib.hid hnil
        clear IH hnil hE
        gi_wp2_with ((refine ⟨trivial, ?_⟩; gi_at_call 105; refine (CallsIn.inRound l (callsIn_wide.2 KO)).mono ?_; rintro e w6 ⟨rfl, hb6⟩; have hv6 : Boxed w6 _ _ v := (hb6.block _ hv.lt).trans hv; have bF6 : Boxed w6 _ _ _ := (hb6.block _ bF.lt).trans bF; have hc6 := hv6.cell; have hcF6 := bF6.cell; have hr6 := hRW.up hb6; have hz6 := hb6.size; have hrow6 : w6.ownsRow _ _ 1 v _ _ := OwnS.up (show OwnS W _ v (txs (kidT f i k pre)) from hrow) hb6))
        refine wpIn_region_any (by kernel_rfl) ?_
        change wpAnyIn _ _ _ _ _ _ 7 (Array.replicate 7 false) _ (World.drew _)
        refine wpAnyIn_ready (rs := [0, 1, 2]) (by kernel_rfl) (List.cons_ne_nil _ _) ?_
        refine AllReadyIn.cons rfl (fun K hK => ?_) ?_
        · refine step_in rfl ?_
          go_simp
          refine hK _ _ ?_
          clear hK K
          refine wpAnyIn_ready (rs := [1, 2]) (by kernel_rfl) (List.cons_ne_nil _ _) ?_
          refine AllReadyIn.cons rfl (fun K hK => ?_) ?_
          · refine step_in rfl ?_
            go_simp
            refine hK _ _ ?_
            clear hK K
            refine wpAnyIn_ready (rs := [2]) (by kernel_rfl) (List.cons_ne_nil _ _) ?_
            refine AllReadyIn.cons rfl (fun K hK => ?_) AllReadyIn.nil
            refine step_in rfl ?_
            go_simp
            refine hK _ _ ?_
            clear hK K
            refine wpAnyIn_ready (rs := [3]) (by kernel_rfl) (List.cons_ne_nil _ _) ?_
            refine AllReadyIn.cons rfl (fun K hK => ?_) AllReadyIn.nil
            refine step_in rfl ?_
            go_simp
            gi_wp2_with (refine ⟨trivial, ?_⟩; gi_at_call 92; refine (CallsIn.inRound l (callsIn_wide.2 (KT _ (show Rd w6.drew w6.drew.heap.size A f.length c (ints f) from hr6)))).mono ?_; rintro e w7 ⟨rfl, hb7⟩; have hv7 : Boxed w7 _ _ v := (hb7.block _ (show _ < w6.drew.heap.size from hv6.lt)).trans hv6; have hc7 := hv7.cell; have hc7a := (hv7.alloc (.cells #[.string ⟨(treeT f k x.1).toArray⟩] 9)).cell; have hz7 := hb7.size; have hrow7 : w7.ownsRow _ _ 1 v _ _ := OwnS.up (show OwnS w6.drew _ v (txs (kidT f i k pre)) from hrow6) hb7; have hs7 : w.heap.size ≤ w7.heap.size := (by have h9 : w6.heap.size ≤ w7.heap.size := hz7; omega); obtain ⟨v', w8, hrun8, hown', hgrow, -⟩ := run_append_own (P := Try.prog) (w7.alloc (.cells #[.string ⟨(treeT f k x.1).toArray⟩] 9)) w.heap.size 90 90 9 i0 (.string ⟨#[]⟩) 1 16 Try.underlying90 hI hz0 hz1 hz2 rfl (by decide) v _ _ (hrow7.alloc _) ⟨w7.heap.size, 0, none⟩ 1 1 [.string ⟨(treeT f k x.1).toArray⟩] rfl (cell_one_new _ _ _) (by simp [Value.oneCell']) (by unfold maxLen; omega) (by omega) (by simp; omega); obtain ⟨g', cap', rfl⟩ := ownsRow_succ hown'; obtain ⟨hv8, hv9, hr9, hk9, hb9⟩ := hv7.appended (by decide) hrow7 hs7 (by omega) hown' hgrow; have hc8 := hv8.cell; have hf8 := hv8.frozen; have hBW : Below w.heap.size W w7 := (hb6.mono hBs).drew.trans (hb7.mono (show w.heap.size ≤ w6.heap.size by omega)); have bM7 : Boxed w7 _ _ _ := (hb7.block _ (show _ < w6.drew.heap.size from Nat.lt_of_lt_of_le bM.lt hz6)).trans ((hb6.block _ bM.lt).trans bM); have bT7 : Boxed w7 _ _ _ := (hb7.block _ (show _ < w6.drew.heap.size from Nat.lt_of_lt_of_le bT.lt hz6)).trans ((hb6.block _ bT.lt).trans bT); have bF7 : Boxed w7 _ _ _ := (hb7.block _ (show _ < w6.drew.heap.size from Nat.lt_of_lt_of_le bF.lt hz6)).trans bF6; have bM9 := Boxed.thru bM7 (by decide) hrow7 hgrow (show w.heap.size + 2 ≠ w.heap.size + 1 by omega) (.slice (some ⟨g', 0, none⟩) ((txs (kidT f i k pre)).length + 1) cap'); have bT9 := Boxed.thru bT7 (by decide) hrow7 hgrow (show w.heap.size + 2 + 1 ≠ w.heap.size + 1 by omega) (.slice (some ⟨g', 0, none⟩) ((txs (kidT f i k pre)).length + 1) cap'); have bF9 := Boxed.thru bF7 (by decide) hrow7 hgrow (show w.heap.size ≠ w.heap.size + 1 by omega) (.slice (some ⟨g', 0, none⟩) ((txs (kidT f i k pre)).length + 1) cap'); have hKF := ((KeepsOthers.of_below hb6).trans ((show KeepsOthers w6 w6.drew from ⟨Nat.le_refl _, fun _ _ h _ => h⟩).trans ((KeepsOthers.of_below hb7).trans hk9))).from w4.heap.size; have hKB : KpB w.heap.size (w.heap.size + 2) (w.heap.size + 2 + 1) W _ := ⟨hBW.trans hb9, bM9.trans bM.symm, bT9.trans bT.symm⟩; have HEND := Lib.hid (And.intro hKF (And.intro hKB (And.intro (kid_row HE.out hv9 hr9) (And.intro bF9 (And.intro bM9 (And.intro bT9 (hB.trans (hBW.trans hb9)))))))); clear hKF hKB bM9 bT9 bF9 bM7 bT7 bF7 hBW)
            refine wpAnyIn_ready (rs := [4]) (by kernel_rfl) (List.cons_ne_nil _ _) ?_
            refine AllReadyIn.cons rfl (fun K hK => ?_) AllReadyIn.nil
            refine step_in rfl ?_
            go_simp
            refine hK _ _ ?_
            clear hK K
            refine wpAnyIn_ready (rs := [5]) (by kernel_rfl) (List.cons_ne_nil _ _) ?_
            refine AllReadyIn.cons rfl (fun K hK => ?_) AllReadyIn.nil
            refine step_appIn rfl (.tmp 19) (.tmp 23) rfl hrun8 rfl rfl (hK _ _ ?_)
            clear hK K
            refine wpAnyIn_ready (rs := [6]) (by kernel_rfl) (List.cons_ne_nil _ _) ?_
            refine AllReadyIn.cons rfl (fun K hK => ?_) AllReadyIn.nil
            refine step_in rfl ?_
            go_simp
            refine hK _ _ ?_
            clear hK K
            refine wpAnyIn_done (by kernel_rfl) ?_ _
            gi_wp2
            exact HEND.out
          refine AllReadyIn.cons rfl (fun K hK => ?_) AllReadyIn.nil
          · refine step_in rfl ?_
            go_simp
            refine hK _ _ ?_
            clear hK K
            refine wpAnyIn_ready (rs := [1]) (by kernel_rfl) (List.cons_ne_nil _ _) ?_
            refine AllReadyIn.cons rfl (fun K hK => ?_) AllReadyIn.nil
            refine step_in rfl ?_
            go_simp
            refine hK _ _ ?_
            clear hK K
            refine wpAnyIn_ready (rs := [3]) (by kernel_rfl) (List.cons_ne_nil _ _) ?_
            refine AllReadyIn.cons rfl (fun K hK => ?_) AllReadyIn.nil
            refine step_in rfl ?_
            go_simp
            gi_wp2_with (refine ⟨trivial, ?_⟩; gi_at_call 92; refine (CallsIn.inRound l (callsIn_wide.2 (KT _ (show Rd w6.drew w6.drew.heap.size A f.length c (ints f) from hr6)))).mono ?_; rintro e w7 ⟨rfl, hb7⟩; have hv7 : Boxed w7 _ _ v := (hb7.block _ (show _ < w6.drew.heap.size from hv6.lt)).trans hv6; have hc7 := hv7.cell; have hc7a := (hv7.alloc (.cells #[.string ⟨(treeT f k x.1).toArray⟩] 9)).cell; have hz7 := hb7.size; have hrow7 : w7.ownsRow _ _ 1 v _ _ := OwnS.up (show OwnS w6.drew _ v (txs (kidT f i k pre)) from hrow6) hb7; have hs7 : w.heap.size ≤ w7.heap.size := (by have h9 : w6.heap.size ≤ w7.heap.size := hz7; omega); obtain ⟨v', w8, hrun8, hown', hgrow, -⟩ := run_append_own (P := Try.prog) (w7.alloc (.cells #[.string ⟨(treeT f k x.1).toArray⟩] 9)) w.heap.size 90 90 9 i0 (.string ⟨#[]⟩) 1 16 Try.underlying90 hI hz0 hz1 hz2 rfl (by decide) v _ _ (hrow7.alloc _) ⟨w7.heap.size, 0, none⟩ 1 1 [.string ⟨(treeT f k x.1).toArray⟩] rfl (cell_one_new _ _ _) (by simp [Value.oneCell']) (by unfold maxLen; omega) (by omega) (by simp; omega); obtain ⟨g', cap', rfl⟩ := ownsRow_succ hown'; obtain ⟨hv8, hv9, hr9, hk9, hb9⟩ := hv7.appended (by decide) hrow7 hs7 (by omega) hown' hgrow; have hc8 := hv8.cell; have hf8 := hv8.frozen; have hBW : Below w.heap.size W w7 := (hb6.mono hBs).drew.trans (hb7.mono (show w.heap.size ≤ w6.heap.size by omega)); have bM7 : Boxed w7 _ _ _ := (hb7.block _ (show _ < w6.drew.heap.size from Nat.lt_of_lt_of_le bM.lt hz6)).trans ((hb6.block _ bM.lt).trans bM); have bT7 : Boxed w7 _ _ _ := (hb7.block _ (show _ < w6.drew.heap.size from Nat.lt_of_lt_of_le bT.lt hz6)).trans ((hb6.block _ bT.lt).trans bT); have bF7 : Boxed w7 _ _ _ := (hb7.block _ (show _ < w6.drew.heap.size from Nat.lt_of_lt_of_le bF.lt hz6)).trans bF6; have bM9 := Boxed.thru bM7 (by decide) hrow7 hgrow (show w.heap.size + 2 ≠ w.heap.size + 1 by omega) (.slice (some ⟨g', 0, none⟩) ((txs (kidT f i k pre)).length + 1) cap'); have bT9 := Boxed.thru bT7 (by decide) hrow7 hgrow (show w.heap.size + 2 + 1 ≠ w.heap.size + 1 by omega) (.slice (some ⟨g', 0, none⟩) ((txs (kidT f i k pre)).length + 1) cap'); have bF9 := Boxed.thru bF7 (by decide) hrow7 hgrow (show w.heap.size ≠ w.heap.size + 1 by omega) (.slice (some ⟨g', 0, none⟩) ((txs (kidT f i k pre)).length + 1) cap'); have hKF := ((KeepsOthers.of_below hb6).trans ((show KeepsOthers w6 w6.drew from ⟨Nat.le_refl _, fun _ _ h _ => h⟩).trans ((KeepsOthers.of_below hb7).trans hk9))).from w4.heap.size; have hKB : KpB w.heap.size (w.heap.size + 2) (w.heap.size + 2 + 1) W _ := ⟨hBW.trans hb9, bM9.trans bM.symm, bT9.trans bT.symm⟩; have HEND := Lib.hid (And.intro hKF (And.intro hKB (And.intro (kid_row HE.out hv9 hr9) (And.intro bF9 (And.intro bM9 (And.intro bT9 (hB.trans (hBW.trans hb9)))))))); clear hKF hKB bM9 bT9 bF9 bM7 bT7 bF7 hBW)
            refine wpAnyIn_ready (rs := [4]) (by kernel_rfl) (List.cons_ne_nil _ _) ?_
            refine AllReadyIn.cons rfl (fun K hK => ?_) AllReadyIn.nil
            refine step_in rfl ?_
            go_simp
            refine hK _ _ ?_
            clear hK K
            refine wpAnyIn_ready (rs := [5]) (by kernel_rfl) (List.cons_ne_nil _ _) ?_
            refine AllReadyIn.cons rfl (fun K hK => ?_) AllReadyIn.nil
            refine step_appIn rfl (.tmp 19) (.tmp 23) rfl hrun8 rfl rfl (hK _ _ ?_)
            clear hK K
            refine wpAnyIn_ready (rs := [6]) (by kernel_rfl) (List.cons_ne_nil _ _) ?_
            refine AllReadyIn.cons rfl (fun K hK => ?_) AllReadyIn.nil
            refine step_in rfl ?_
            go_simp
            refine hK _ _ ?_
            clear hK K
            refine wpAnyIn_done (by kernel_rfl) ?_ _
            gi_wp2
            exact HEND.out
        refine AllReadyIn.cons rfl (fun K hK => ?_) ?_
        · refine step_in rfl ?_
          go_simp
          refine hK _ _ ?_
          clear hK K
          refine wpAnyIn_ready (rs := [0, 2]) (by kernel_rfl) (List.cons_ne_nil _ _) ?_
          refine AllReadyIn.cons rfl (fun K hK => ?_) ?_
          · refine step_in rfl ?_
            go_simp
            refine hK _ _ ?_
            clear hK K
            refine wpAnyIn_ready (rs := [2]) (by kernel_rfl) (List.cons_ne_nil _ _) ?_
            refine AllReadyIn.cons rfl (fun K hK => ?_) AllReadyIn.nil
            refine step_in rfl ?_
            go_simp
            refine hK _ _ ?_
            clear hK K
            refine wpAnyIn_ready (rs := [3]) (by kernel_rfl) (List.cons_ne_nil _ _) ?_
            refine AllReadyIn.cons rfl (fun K hK => ?_) AllReadyIn.nil
            refine step_in rfl ?_
            go_simp
            gi_wp2_with (refine ⟨trivial, ?_⟩; gi_at_call 92; refine (CallsIn.inRound l (callsIn_wide.2 (KT _ (show Rd w6.drew w6.drew.heap.size A f.length c (ints f) from hr6)))).mono ?_; rintro e w7 ⟨rfl, hb7⟩; have hv7 : Boxed w7 _ _ v := (hb7.block _ (show _ < w6.drew.heap.size from hv6.lt)).trans hv6; have hc7 := hv7.cell; have hc7a := (hv7.alloc (.cells #[.string ⟨(treeT f k x.1).toArray⟩] 9)).cell; have hz7 := hb7.size; have hrow7 : w7.ownsRow _ _ 1 v _ _ := OwnS.up (show OwnS w6.drew _ v (txs (kidT f i k pre)) from hrow6) hb7; have hs7 : w.heap.size ≤ w7.heap.size := (by have h9 : w6.heap.size ≤ w7.heap.size := hz7; omega); obtain ⟨v', w8, hrun8, hown', hgrow, -⟩ := run_append_own (P := Try.prog) (w7.alloc (.cells #[.string ⟨(treeT f k x.1).toArray⟩] 9)) w.heap.size 90 90 9 i0 (.string ⟨#[]⟩) 1 16 Try.underlying90 hI hz0 hz1 hz2 rfl (by decide) v _ _ (hrow7.alloc _) ⟨w7.heap.size, 0, none⟩ 1 1 [.string ⟨(treeT f k x.1).toArray⟩] rfl (cell_one_new _ _ _) (by simp [Value.oneCell']) (by unfold maxLen; omega) (by omega) (by simp; omega); obtain ⟨g', cap', rfl⟩ := ownsRow_succ hown'; obtain ⟨hv8, hv9, hr9, hk9, hb9⟩ := hv7.appended (by decide) hrow7 hs7 (by omega) hown' hgrow; have hc8 := hv8.cell; have hf8 := hv8.frozen; have hBW : Below w.heap.size W w7 := (hb6.mono hBs).drew.trans (hb7.mono (show w.heap.size ≤ w6.heap.size by omega)); have bM7 : Boxed w7 _ _ _ := (hb7.block _ (show _ < w6.drew.heap.size from Nat.lt_of_lt_of_le bM.lt hz6)).trans ((hb6.block _ bM.lt).trans bM); have bT7 : Boxed w7 _ _ _ := (hb7.block _ (show _ < w6.drew.heap.size from Nat.lt_of_lt_of_le bT.lt hz6)).trans ((hb6.block _ bT.lt).trans bT); have bF7 : Boxed w7 _ _ _ := (hb7.block _ (show _ < w6.drew.heap.size from Nat.lt_of_lt_of_le bF.lt hz6)).trans bF6; have bM9 := Boxed.thru bM7 (by decide) hrow7 hgrow (show w.heap.size + 2 ≠ w.heap.size + 1 by omega) (.slice (some ⟨g', 0, none⟩) ((txs (kidT f i k pre)).length + 1) cap'); have bT9 := Boxed.thru bT7 (by decide) hrow7 hgrow (show w.heap.size + 2 + 1 ≠ w.heap.size + 1 by omega) (.slice (some ⟨g', 0, none⟩) ((txs (kidT f i k pre)).length + 1) cap'); have bF9 := Boxed.thru bF7 (by decide) hrow7 hgrow (show w.heap.size ≠ w.heap.size + 1 by omega) (.slice (some ⟨g', 0, none⟩) ((txs (kidT f i k pre)).length + 1) cap'); have hKF := ((KeepsOthers.of_below hb6).trans ((show KeepsOthers w6 w6.drew from ⟨Nat.le_refl _, fun _ _ h _ => h⟩).trans ((KeepsOthers.of_below hb7).trans hk9))).from w4.heap.size; have hKB : KpB w.heap.size (w.heap.size + 2) (w.heap.size + 2 + 1) W _ := ⟨hBW.trans hb9, bM9.trans bM.symm, bT9.trans bT.symm⟩; have HEND := Lib.hid (And.intro hKF (And.intro hKB (And.intro (kid_row HE.out hv9 hr9) (And.intro bF9 (And.intro bM9 (And.intro bT9 (hB.trans (hBW.trans hb9)))))))); clear hKF hKB bM9 bT9 bF9 bM7 bT7 bF7 hBW)
            refine wpAnyIn_ready (rs := [4]) (by kernel_rfl) (List.cons_ne_nil _ _) ?_
            refine AllReadyIn.cons rfl (fun K hK => ?_) AllReadyIn.nil
            refine step_in rfl ?_
            go_simp
            refine hK _ _ ?_
            clear hK K
            refine wpAnyIn_ready (rs := [5]) (by kernel_rfl) (List.cons_ne_nil _ _) ?_
            refine AllReadyIn.cons rfl (fun K hK => ?_) AllReadyIn.nil
            refine step_appIn rfl (.tmp 19) (.tmp 23) rfl hrun8 rfl rfl (hK _ _ ?_)
            clear hK K
            refine wpAnyIn_ready (rs := [6]) (by kernel_rfl) (List.cons_ne_nil _ _) ?_
            refine AllReadyIn.cons rfl (fun K hK => ?_) AllReadyIn.nil
            refine step_in rfl ?_
            go_simp
            refine hK _ _ ?_
            clear hK K
            refine wpAnyIn_done (by kernel_rfl) ?_ _
            gi_wp2
            exact HEND.out
          refine AllReadyIn.cons rfl (fun K hK => ?_) AllReadyIn.nil
          · refine step_in rfl ?_
            go_simp
            refine hK _ _ ?_
            clear hK K
            refine wpAnyIn_ready (rs := [0, 3]) (by kernel_rfl) (List.cons_ne_nil _ _) ?_
            refine AllReadyIn.cons rfl (fun K hK => ?_) ?_
            · refine step_in rfl ?_
              go_simp
              refine hK _ _ ?_
              clear hK K
              refine wpAnyIn_ready (rs := [3]) (by kernel_rfl) (List.cons_ne_nil _ _) ?_
              refine AllReadyIn.cons rfl (fun K hK => ?_) AllReadyIn.nil
              refine step_in rfl ?_
              go_simp
              gi_wp2_with (refine ⟨trivial, ?_⟩; gi_at_call 92; refine (CallsIn.inRound l (callsIn_wide.2 (KT _ (show Rd w6.drew w6.drew.heap.size A f.length c (ints f) from hr6)))).mono ?_; rintro e w7 ⟨rfl, hb7⟩; have hv7 : Boxed w7 _ _ v := (hb7.block _ (show _ < w6.drew.heap.size from hv6.lt)).trans hv6; have hc7 := hv7.cell; have hc7a := (hv7.alloc (.cells #[.string ⟨(treeT f k x.1).toArray⟩] 9)).cell; have hz7 := hb7.size; have hrow7 : w7.ownsRow _ _ 1 v _ _ := OwnS.up (show OwnS w6.drew _ v (txs (kidT f i k pre)) from hrow6) hb7; have hs7 : w.heap.size ≤ w7.heap.size := (by have h9 : w6.heap.size ≤ w7.heap.size := hz7; omega); obtain ⟨v', w8, hrun8, hown', hgrow, -⟩ := run_append_own (P := Try.prog) (w7.alloc (.cells #[.string ⟨(treeT f k x.1).toArray⟩] 9)) w.heap.size 90 90 9 i0 (.string ⟨#[]⟩) 1 16 Try.underlying90 hI hz0 hz1 hz2 rfl (by decide) v _ _ (hrow7.alloc _) ⟨w7.heap.size, 0, none⟩ 1 1 [.string ⟨(treeT f k x.1).toArray⟩] rfl (cell_one_new _ _ _) (by simp [Value.oneCell']) (by unfold maxLen; omega) (by omega) (by simp; omega); obtain ⟨g', cap', rfl⟩ := ownsRow_succ hown'; obtain ⟨hv8, hv9, hr9, hk9, hb9⟩ := hv7.appended (by decide) hrow7 hs7 (by omega) hown' hgrow; have hc8 := hv8.cell; have hf8 := hv8.frozen; have hBW : Below w.heap.size W w7 := (hb6.mono hBs).drew.trans (hb7.mono (show w.heap.size ≤ w6.heap.size by omega)); have bM7 : Boxed w7 _ _ _ := (hb7.block _ (show _ < w6.drew.heap.size from Nat.lt_of_lt_of_le bM.lt hz6)).trans ((hb6.block _ bM.lt).trans bM); have bT7 : Boxed w7 _ _ _ := (hb7.block _ (show _ < w6.drew.heap.size from Nat.lt_of_lt_of_le bT.lt hz6)).trans ((hb6.block _ bT.lt).trans bT); have bF7 : Boxed w7 _ _ _ := (hb7.block _ (show _ < w6.drew.heap.size from Nat.lt_of_lt_of_le bF.lt hz6)).trans bF6; have bM9 := Boxed.thru bM7 (by decide) hrow7 hgrow (show w.heap.size + 2 ≠ w.heap.size + 1 by omega) (.slice (some ⟨g', 0, none⟩) ((txs (kidT f i k pre)).length + 1) cap'); have bT9 := Boxed.thru bT7 (by decide) hrow7 hgrow (show w.heap.size + 2 + 1 ≠ w.heap.size + 1 by omega) (.slice (some ⟨g', 0, none⟩) ((txs (kidT f i k pre)).length + 1) cap'); have bF9 := Boxed.thru bF7 (by decide) hrow7 hgrow (show w.heap.size ≠ w.heap.size + 1 by omega) (.slice (some ⟨g', 0, none⟩) ((txs (kidT f i k pre)).length + 1) cap'); have hKF := ((KeepsOthers.of_below hb6).trans ((show KeepsOthers w6 w6.drew from ⟨Nat.le_refl _, fun _ _ h _ => h⟩).trans ((KeepsOthers.of_below hb7).trans hk9))).from w4.heap.size; have hKB : KpB w.heap.size (w.heap.size + 2) (w.heap.size + 2 + 1) W _ := ⟨hBW.trans hb9, bM9.trans bM.symm, bT9.trans bT.symm⟩; have HEND := Lib.hid (And.intro hKF (And.intro hKB (And.intro (kid_row HE.out hv9 hr9) (And.intro bF9 (And.intro bM9 (And.intro bT9 (hB.trans (hBW.trans hb9)))))))); clear hKF hKB bM9 bT9 bF9 bM7 bT7 bF7 hBW)
              refine wpAnyIn_ready (rs := [4]) (by kernel_rfl) (List.cons_ne_nil _ _) ?_
              refine AllReadyIn.cons rfl (fun K hK => ?_) AllReadyIn.nil
              refine step_in rfl ?_
              go_simp
              refine hK _ _ ?_
              clear hK K
              refine wpAnyIn_ready (rs := [5]) (by kernel_rfl) (List.cons_ne_nil _ _) ?_
              refine AllReadyIn.cons rfl (fun K hK => ?_) AllReadyIn.nil
              refine step_appIn rfl (.tmp 19) (.tmp 23) rfl hrun8 rfl rfl (hK _ _ ?_)
              clear hK K
              refine wpAnyIn_ready (rs := [6]) (by kernel_rfl) (List.cons_ne_nil _ _) ?_
              refine AllReadyIn.cons rfl (fun K hK => ?_) AllReadyIn.nil
              refine step_in rfl ?_
              go_simp
              refine hK _ _ ?_
              clear hK K
              refine wpAnyIn_done (by kernel_rfl) ?_ _
              gi_wp2
              exact HEND.out
            refine AllReadyIn.cons rfl (fun K hK => ?_) AllReadyIn.nil
            · refine step_in rfl ?_
              go_simp
              gi_wp2_with (refine ⟨trivial, ?_⟩; gi_at_call 92; refine (CallsIn.inRound l (callsIn_wide.2 (KT _ (show Rd w6.drew w6.drew.heap.size A f.length c (ints f) from hr6)))).mono ?_; rintro e w7 ⟨rfl, hb7⟩; have hv7 : Boxed w7 _ _ v := (hb7.block _ (show _ < w6.drew.heap.size from hv6.lt)).trans hv6; have hc7 := hv7.cell; have hc7a := (hv7.alloc (.cells #[.string ⟨(treeT f k x.1).toArray⟩] 9)).cell; have hz7 := hb7.size; have hrow7 : w7.ownsRow _ _ 1 v _ _ := OwnS.up (show OwnS w6.drew _ v (txs (kidT f i k pre)) from hrow6) hb7; have hs7 : w.heap.size ≤ w7.heap.size := (by have h9 : w6.heap.size ≤ w7.heap.size := hz7; omega); obtain ⟨v', w8, hrun8, hown', hgrow, -⟩ := run_append_own (P := Try.prog) (w7.alloc (.cells #[.string ⟨(treeT f k x.1).toArray⟩] 9)) w.heap.size 90 90 9 i0 (.string ⟨#[]⟩) 1 16 Try.underlying90 hI hz0 hz1 hz2 rfl (by decide) v _ _ (hrow7.alloc _) ⟨w7.heap.size, 0, none⟩ 1 1 [.string ⟨(treeT f k x.1).toArray⟩] rfl (cell_one_new _ _ _) (by simp [Value.oneCell']) (by unfold maxLen; omega) (by omega) (by simp; omega); obtain ⟨g', cap', rfl⟩ := ownsRow_succ hown'; obtain ⟨hv8, hv9, hr9, hk9, hb9⟩ := hv7.appended (by decide) hrow7 hs7 (by omega) hown' hgrow; have hc8 := hv8.cell; have hf8 := hv8.frozen; have hBW : Below w.heap.size W w7 := (hb6.mono hBs).drew.trans (hb7.mono (show w.heap.size ≤ w6.heap.size by omega)); have bM7 : Boxed w7 _ _ _ := (hb7.block _ (show _ < w6.drew.heap.size from Nat.lt_of_lt_of_le bM.lt hz6)).trans ((hb6.block _ bM.lt).trans bM); have bT7 : Boxed w7 _ _ _ := (hb7.block _ (show _ < w6.drew.heap.size from Nat.lt_of_lt_of_le bT.lt hz6)).trans ((hb6.block _ bT.lt).trans bT); have bF7 : Boxed w7 _ _ _ := (hb7.block _ (show _ < w6.drew.heap.size from Nat.lt_of_lt_of_le bF.lt hz6)).trans bF6; have bM9 := Boxed.thru bM7 (by decide) hrow7 hgrow (show w.heap.size + 2 ≠ w.heap.size + 1 by omega) (.slice (some ⟨g', 0, none⟩) ((txs (kidT f i k pre)).length + 1) cap'); have bT9 := Boxed.thru bT7 (by decide) hrow7 hgrow (show w.heap.size + 2 + 1 ≠ w.heap.size + 1 by omega) (.slice (some ⟨g', 0, none⟩) ((txs (kidT f i k pre)).length + 1) cap'); have bF9 := Boxed.thru bF7 (by decide) hrow7 hgrow (show w.heap.size ≠ w.heap.size + 1 by omega) (.slice (some ⟨g', 0, none⟩) ((txs (kidT f i k pre)).length + 1) cap'); have hKF := ((KeepsOthers.of_below hb6).trans ((show KeepsOthers w6 w6.drew from ⟨Nat.le_refl _, fun _ _ h _ => h⟩).trans ((KeepsOthers.of_below hb7).trans hk9))).from w4.heap.size; have hKB : KpB w.heap.size (w.heap.size + 2) (w.heap.size + 2 + 1) W _ := ⟨hBW.trans hb9, bM9.trans bM.symm, bT9.trans bT.symm⟩; have HEND := Lib.hid (And.intro hKF (And.intro hKB (And.intro (kid_row HE.out hv9 hr9) (And.intro bF9 (And.intro bM9 (And.intro bT9 (hB.trans (hBW.trans hb9)))))))); clear hKF hKB bM9 bT9 bF9 bM7 bT7 bF7 hBW)
              refine wpAnyIn_ready (rs := [0, 4]) (by kernel_rfl) (List.cons_ne_nil _ _) ?_
              refine AllReadyIn.cons rfl (fun K hK => ?_) ?_
              · refine step_in rfl ?_
                go_simp
                refine hK _ _ ?_
                clear hK K
                refine wpAnyIn_ready (rs := [4]) (by kernel_rfl) (List.cons_ne_nil _ _) ?_
                refine AllReadyIn.cons rfl (fun K hK => ?_) AllReadyIn.nil
                refine step_in rfl ?_
                go_simp
                refine hK _ _ ?_
                clear hK K
                refine wpAnyIn_ready (rs := [5]) (by kernel_rfl) (List.cons_ne_nil _ _) ?_
                refine AllReadyIn.cons rfl (fun K hK => ?_) AllReadyIn.nil
                refine step_appIn rfl (.tmp 19) (.tmp 23) rfl hrun8 rfl rfl (hK _ _ ?_)
                clear hK K
                refine wpAnyIn_ready (rs := [6]) (by kernel_rfl) (List.cons_ne_nil _ _) ?_
                refine AllReadyIn.cons rfl (fun K hK => ?_) AllReadyIn.nil
                refine step_in rfl ?_
                go_simp
                refine hK _ _ ?_
                clear hK K
                refine wpAnyIn_done (by kernel_rfl) ?_ _
                gi_wp2
                exact HEND.out
              refine AllReadyIn.cons rfl (fun K hK => ?_) AllReadyIn.nil
              · refine step_in rfl ?_
                go_simp
                refine hK _ _ ?_
                clear hK K
                refine wpAnyIn_ready (rs := [0]) (by kernel_rfl) (List.cons_ne_nil _ _) ?_
                refine AllReadyIn.cons rfl (fun K hK => ?_) AllReadyIn.nil
                refine step_in rfl ?_
                go_simp
                refine hK _ _ ?_
                clear hK K
                refine wpAnyIn_ready (rs := [5]) (by kernel_rfl) (List.cons_ne_nil _ _) ?_
                refine AllReadyIn.cons rfl (fun K hK => ?_) AllReadyIn.nil
                refine step_appIn rfl (.tmp 19) (.tmp 23) rfl hrun8 rfl rfl (hK _ _ ?_)
                clear hK K
                refine wpAnyIn_ready (rs := [6]) (by kernel_rfl) (List.cons_ne_nil _ _) ?_
                refine AllReadyIn.cons rfl (fun K hK => ?_) AllReadyIn.nil
                refine step_in rfl ?_
                go_simp
                refine hK _ _ ?_
                clear hK K
                refine wpAnyIn_done (by kernel_rfl) ?_ _
                gi_wp2
                exact HEND.out
        refine AllReadyIn.cons rfl (fun K hK => ?_) AllReadyIn.nil
        · refine step_in rfl ?_
          go_simp
          refine hK _ _ ?_
          clear hK K
          refine wpAnyIn_ready (rs := [0, 1]) (by kernel_rfl) (List.cons_ne_nil _ _) ?_
          refine AllReadyIn.cons rfl (fun K hK => ?_) ?_
          · refine step_in rfl ?_
            go_simp
            refine hK _ _ ?_
            clear hK K
            refine wpAnyIn_ready (rs := [1]) (by kernel_rfl) (List.cons_ne_nil _ _) ?_
            refine AllReadyIn.cons rfl (fun K hK => ?_) AllReadyIn.nil
            refine step_in rfl ?_
            go_simp
            refine hK _ _ ?_
            clear hK K
            refine wpAnyIn_ready (rs := [3]) (by kernel_rfl) (List.cons_ne_nil _ _) ?_
            refine AllReadyIn.cons rfl (fun K hK => ?_) AllReadyIn.nil
            refine step_in rfl ?_
            go_simp
            gi_wp2_with (refine ⟨trivial, ?_⟩; gi_at_call 92; refine (CallsIn.inRound l (callsIn_wide.2 (KT _ (show Rd w6.drew w6.drew.heap.size A f.length c (ints f) from hr6)))).mono ?_; rintro e w7 ⟨rfl, hb7⟩; have hv7 : Boxed w7 _ _ v := (hb7.block _ (show _ < w6.drew.heap.size from hv6.lt)).trans hv6; have hc7 := hv7.cell; have hc7a := (hv7.alloc (.cells #[.string ⟨(treeT f k x.1).toArray⟩] 9)).cell; have hz7 := hb7.size; have hrow7 : w7.ownsRow _ _ 1 v _ _ := OwnS.up (show OwnS w6.drew _ v (txs (kidT f i k pre)) from hrow6) hb7; have hs7 : w.heap.size ≤ w7.heap.size := (by have h9 : w6.heap.size ≤ w7.heap.size := hz7; omega); obtain ⟨v', w8, hrun8, hown', hgrow, -⟩ := run_append_own (P := Try.prog) (w7.alloc (.cells #[.string ⟨(treeT f k x.1).toArray⟩] 9)) w.heap.size 90 90 9 i0 (.string ⟨#[]⟩) 1 16 Try.underlying90 hI hz0 hz1 hz2 rfl (by decide) v _ _ (hrow7.alloc _) ⟨w7.heap.size, 0, none⟩ 1 1 [.string ⟨(treeT f k x.1).toArray⟩] rfl (cell_one_new _ _ _) (by simp [Value.oneCell']) (by unfold maxLen; omega) (by omega) (by simp; omega); obtain ⟨g', cap', rfl⟩ := ownsRow_succ hown'; obtain ⟨hv8, hv9, hr9, hk9, hb9⟩ := hv7.appended (by decide) hrow7 hs7 (by omega) hown' hgrow; have hc8 := hv8.cell; have hf8 := hv8.frozen; have hBW : Below w.heap.size W w7 := (hb6.mono hBs).drew.trans (hb7.mono (show w.heap.size ≤ w6.heap.size by omega)); have bM7 : Boxed w7 _ _ _ := (hb7.block _ (show _ < w6.drew.heap.size from Nat.lt_of_lt_of_le bM.lt hz6)).trans ((hb6.block _ bM.lt).trans bM); have bT7 : Boxed w7 _ _ _ := (hb7.block _ (show _ < w6.drew.heap.size from Nat.lt_of_lt_of_le bT.lt hz6)).trans ((hb6.block _ bT.lt).trans bT); have bF7 : Boxed w7 _ _ _ := (hb7.block _ (show _ < w6.drew.heap.size from Nat.lt_of_lt_of_le bF.lt hz6)).trans bF6; have bM9 := Boxed.thru bM7 (by decide) hrow7 hgrow (show w.heap.size + 2 ≠ w.heap.size + 1 by omega) (.slice (some ⟨g', 0, none⟩) ((txs (kidT f i k pre)).length + 1) cap'); have bT9 := Boxed.thru bT7 (by decide) hrow7 hgrow (show w.heap.size + 2 + 1 ≠ w.heap.size + 1 by omega) (.slice (some ⟨g', 0, none⟩) ((txs (kidT f i k pre)).length + 1) cap'); have bF9 := Boxed.thru bF7 (by decide) hrow7 hgrow (show w.heap.size ≠ w.heap.size + 1 by omega) (.slice (some ⟨g', 0, none⟩) ((txs (kidT f i k pre)).length + 1) cap'); have hKF := ((KeepsOthers.of_below hb6).trans ((show KeepsOthers w6 w6.drew from ⟨Nat.le_refl _, fun _ _ h _ => h⟩).trans ((KeepsOthers.of_below hb7).trans hk9))).from w4.heap.size; have hKB : KpB w.heap.size (w.heap.size + 2) (w.heap.size + 2 + 1) W _ := ⟨hBW.trans hb9, bM9.trans bM.symm, bT9.trans bT.symm⟩; have HEND := Lib.hid (And.intro hKF (And.intro hKB (And.intro (kid_row HE.out hv9 hr9) (And.intro bF9 (And.intro bM9 (And.intro bT9 (hB.trans (hBW.trans hb9)))))))); clear hKF hKB bM9 bT9 bF9 bM7 bT7 bF7 hBW)
            refine wpAnyIn_ready (rs := [4]) (by kernel_rfl) (List.cons_ne_nil _ _) ?_
            refine AllReadyIn.cons rfl (fun K hK => ?_) AllReadyIn.nil
            refine step_in rfl ?_
            go_simp
            refine hK _ _ ?_
            clear hK K
            refine wpAnyIn_ready (rs := [5]) (by kernel_rfl) (List.cons_ne_nil _ _) ?_
            refine AllReadyIn.cons rfl (fun K hK => ?_) AllReadyIn.nil
            refine step_appIn rfl (.tmp 19) (.tmp 23) rfl hrun8 rfl rfl (hK _ _ ?_)
            clear hK K
            refine wpAnyIn_ready (rs := [6]) (by kernel_rfl) (List.cons_ne_nil _ _) ?_
            refine AllReadyIn.cons rfl (fun K hK => ?_) AllReadyIn.nil
            refine step_in rfl ?_
            go_simp
            refine hK _ _ ?_
            clear hK K
            refine wpAnyIn_done (by kernel_rfl) ?_ _
            gi_wp2
            exact HEND.out
          refine AllReadyIn.cons rfl (fun K hK => ?_) AllReadyIn.nil
          · refine step_in rfl ?_
            go_simp
            refine hK _ _ ?_
            clear hK K
            refine wpAnyIn_ready (rs := [0, 3]) (by kernel_rfl) (List.cons_ne_nil _ _) ?_
            refine AllReadyIn.cons rfl (fun K hK => ?_) ?_
            · refine step_in rfl ?_
              go_simp
              refine hK _ _ ?_
              clear hK K
              refine wpAnyIn_ready (rs := [3]) (by kernel_rfl) (List.cons_ne_nil _ _) ?_
              refine AllReadyIn.cons rfl (fun K hK => ?_) AllReadyIn.nil
              refine step_in rfl ?_
              go_simp
              gi_wp2_with (refine ⟨trivial, ?_⟩; gi_at_call 92; refine (CallsIn.inRound l (callsIn_wide.2 (KT _ (show Rd w6.drew w6.drew.heap.size A f.length c (ints f) from hr6)))).mono ?_; rintro e w7 ⟨rfl, hb7⟩; have hv7 : Boxed w7 _ _ v := (hb7.block _ (show _ < w6.drew.heap.size from hv6.lt)).trans hv6; have hc7 := hv7.cell; have hc7a := (hv7.alloc (.cells #[.string ⟨(treeT f k x.1).toArray⟩] 9)).cell; have hz7 := hb7.size; have hrow7 : w7.ownsRow _ _ 1 v _ _ := OwnS.up (show OwnS w6.drew _ v (txs (kidT f i k pre)) from hrow6) hb7; have hs7 : w.heap.size ≤ w7.heap.size := (by have h9 : w6.heap.size ≤ w7.heap.size := hz7; omega); obtain ⟨v', w8, hrun8, hown', hgrow, -⟩ := run_append_own (P := Try.prog) (w7.alloc (.cells #[.string ⟨(treeT f k x.1).toArray⟩] 9)) w.heap.size 90 90 9 i0 (.string ⟨#[]⟩) 1 16 Try.underlying90 hI hz0 hz1 hz2 rfl (by decide) v _ _ (hrow7.alloc _) ⟨w7.heap.size, 0, none⟩ 1 1 [.string ⟨(treeT f k x.1).toArray⟩] rfl (cell_one_new _ _ _) (by simp [Value.oneCell']) (by unfold maxLen; omega) (by omega) (by simp; omega); obtain ⟨g', cap', rfl⟩ := ownsRow_succ hown'; obtain ⟨hv8, hv9, hr9, hk9, hb9⟩ := hv7.appended (by decide) hrow7 hs7 (by omega) hown' hgrow; have hc8 := hv8.cell; have hf8 := hv8.frozen; have hBW : Below w.heap.size W w7 := (hb6.mono hBs).drew.trans (hb7.mono (show w.heap.size ≤ w6.heap.size by omega)); have bM7 : Boxed w7 _ _ _ := (hb7.block _ (show _ < w6.drew.heap.size from Nat.lt_of_lt_of_le bM.lt hz6)).trans ((hb6.block _ bM.lt).trans bM); have bT7 : Boxed w7 _ _ _ := (hb7.block _ (show _ < w6.drew.heap.size from Nat.lt_of_lt_of_le bT.lt hz6)).trans ((hb6.block _ bT.lt).trans bT); have bF7 : Boxed w7 _ _ _ := (hb7.block _ (show _ < w6.drew.heap.size from Nat.lt_of_lt_of_le bF.lt hz6)).trans bF6; have bM9 := Boxed.thru bM7 (by decide) hrow7 hgrow (show w.heap.size + 2 ≠ w.heap.size + 1 by omega) (.slice (some ⟨g', 0, none⟩) ((txs (kidT f i k pre)).length + 1) cap'); have bT9 := Boxed.thru bT7 (by decide) hrow7 hgrow (show w.heap.size + 2 + 1 ≠ w.heap.size + 1 by omega) (.slice (some ⟨g', 0, none⟩) ((txs (kidT f i k pre)).length + 1) cap'); have bF9 := Boxed.thru bF7 (by decide) hrow7 hgrow (show w.heap.size ≠ w.heap.size + 1 by omega) (.slice (some ⟨g', 0, none⟩) ((txs (kidT f i k pre)).length + 1) cap'); have hKF := ((KeepsOthers.of_below hb6).trans ((show KeepsOthers w6 w6.drew from ⟨Nat.le_refl _, fun _ _ h _ => h⟩).trans ((KeepsOthers.of_below hb7).trans hk9))).from w4.heap.size; have hKB : KpB w.heap.size (w.heap.size + 2) (w.heap.size + 2 + 1) W _ := ⟨hBW.trans hb9, bM9.trans bM.symm, bT9.trans bT.symm⟩; have HEND := Lib.hid (And.intro hKF (And.intro hKB (And.intro (kid_row HE.out hv9 hr9) (And.intro bF9 (And.intro bM9 (And.intro bT9 (hB.trans (hBW.trans hb9)))))))); clear hKF hKB bM9 bT9 bF9 bM7 bT7 bF7 hBW)
              refine wpAnyIn_ready (rs := [4]) (by kernel_rfl) (List.cons_ne_nil _ _) ?_
              refine AllReadyIn.cons rfl (fun K hK => ?_) AllReadyIn.nil
              refine step_in rfl ?_
              go_simp
              refine hK _ _ ?_
              clear hK K
              refine wpAnyIn_ready (rs := [5]) (by kernel_rfl) (List.cons_ne_nil _ _) ?_
              refine AllReadyIn.cons rfl (fun K hK => ?_) AllReadyIn.nil
              refine step_appIn rfl (.tmp 19) (.tmp 23) rfl hrun8 rfl rfl (hK _ _ ?_)
              clear hK K
              refine wpAnyIn_ready (rs := [6]) (by kernel_rfl) (List.cons_ne_nil _ _) ?_
              refine AllReadyIn.cons rfl (fun K hK => ?_) AllReadyIn.nil
              refine step_in rfl ?_
              go_simp
              refine hK _ _ ?_
              clear hK K
              refine wpAnyIn_done (by kernel_rfl) ?_ _
              gi_wp2
              exact HEND.out
            refine AllReadyIn.cons rfl (fun K hK => ?_) AllReadyIn.nil
            · refine step_in rfl ?_
              go_simp
              gi_wp2_with (refine ⟨trivial, ?_⟩; gi_at_call 92; refine (CallsIn.inRound l (callsIn_wide.2 (KT _ (show Rd w6.drew w6.drew.heap.size A f.length c (ints f) from hr6)))).mono ?_; rintro e w7 ⟨rfl, hb7⟩; have hv7 : Boxed w7 _ _ v := (hb7.block _ (show _ < w6.drew.heap.size from hv6.lt)).trans hv6; have hc7 := hv7.cell; have hc7a := (hv7.alloc (.cells #[.string ⟨(treeT f k x.1).toArray⟩] 9)).cell; have hz7 := hb7.size; have hrow7 : w7.ownsRow _ _ 1 v _ _ := OwnS.up (show OwnS w6.drew _ v (txs (kidT f i k pre)) from hrow6) hb7; have hs7 : w.heap.size ≤ w7.heap.size := (by have h9 : w6.heap.size ≤ w7.heap.size := hz7; omega); obtain ⟨v', w8, hrun8, hown', hgrow, -⟩ := run_append_own (P := Try.prog) (w7.alloc (.cells #[.string ⟨(treeT f k x.1).toArray⟩] 9)) w.heap.size 90 90 9 i0 (.string ⟨#[]⟩) 1 16 Try.underlying90 hI hz0 hz1 hz2 rfl (by decide) v _ _ (hrow7.alloc _) ⟨w7.heap.size, 0, none⟩ 1 1 [.string ⟨(treeT f k x.1).toArray⟩] rfl (cell_one_new _ _ _) (by simp [Value.oneCell']) (by unfold maxLen; omega) (by omega) (by simp; omega); obtain ⟨g', cap', rfl⟩ := ownsRow_succ hown'; obtain ⟨hv8, hv9, hr9, hk9, hb9⟩ := hv7.appended (by decide) hrow7 hs7 (by omega) hown' hgrow; have hc8 := hv8.cell; have hf8 := hv8.frozen; have hBW : Below w.heap.size W w7 := (hb6.mono hBs).drew.trans (hb7.mono (show w.heap.size ≤ w6.heap.size by omega)); have bM7 : Boxed w7 _ _ _ := (hb7.block _ (show _ < w6.drew.heap.size from Nat.lt_of_lt_of_le bM.lt hz6)).trans ((hb6.block _ bM.lt).trans bM); have bT7 : Boxed w7 _ _ _ := (hb7.block _ (show _ < w6.drew.heap.size from Nat.lt_of_lt_of_le bT.lt hz6)).trans ((hb6.block _ bT.lt).trans bT); have bF7 : Boxed w7 _ _ _ := (hb7.block _ (show _ < w6.drew.heap.size from Nat.lt_of_lt_of_le bF.lt hz6)).trans bF6; have bM9 := Boxed.thru bM7 (by decide) hrow7 hgrow (show w.heap.size + 2 ≠ w.heap.size + 1 by omega) (.slice (some ⟨g', 0, none⟩) ((txs (kidT f i k pre)).length + 1) cap'); have bT9 := Boxed.thru bT7 (by decide) hrow7 hgrow (show w.heap.size + 2 + 1 ≠ w.heap.size + 1 by omega) (.slice (some ⟨g', 0, none⟩) ((txs (kidT f i k pre)).length + 1) cap'); have bF9 := Boxed.thru bF7 (by decide) hrow7 hgrow (show w.heap.size ≠ w.heap.size + 1 by omega) (.slice (some ⟨g', 0, none⟩) ((txs (kidT f i k pre)).length + 1) cap'); have hKF := ((KeepsOthers.of_below hb6).trans ((show KeepsOthers w6 w6.drew from ⟨Nat.le_refl _, fun _ _ h _ => h⟩).trans ((KeepsOthers.of_below hb7).trans hk9))).from w4.heap.size; have hKB : KpB w.heap.size (w.heap.size + 2) (w.heap.size + 2 + 1) W _ := ⟨hBW.trans hb9, bM9.trans bM.symm, bT9.trans bT.symm⟩; have HEND := Lib.hid (And.intro hKF (And.intro hKB (And.intro (kid_row HE.out hv9 hr9) (And.intro bF9 (And.intro bM9 (And.intro bT9 (hB.trans (hBW.trans hb9)))))))); clear hKF hKB bM9 bT9 bF9 bM7 bT7 bF7 hBW)
              refine wpAnyIn_ready (rs := [0, 4]) (by kernel_rfl) (List.cons_ne_nil _ _) ?_
              refine AllReadyIn.cons rfl (fun K hK => ?_) ?_
              · refine step_in rfl ?_
                go_simp
                refine hK _ _ ?_
                clear hK K
                refine wpAnyIn_ready (rs := [4]) (by kernel_rfl) (List.cons_ne_nil _ _) ?_
                refine AllReadyIn.cons rfl (fun K hK => ?_) AllReadyIn.nil
                refine step_in rfl ?_
                go_simp
                refine hK _ _ ?_
                clear hK K
                refine wpAnyIn_ready (rs := [5]) (by kernel_rfl) (List.cons_ne_nil _ _) ?_
                refine AllReadyIn.cons rfl (fun K hK => ?_) AllReadyIn.nil
                refine step_appIn rfl (.tmp 19) (.tmp 23) rfl hrun8 rfl rfl (hK _ _ ?_)
                clear hK K
                refine wpAnyIn_ready (rs := [6]) (by kernel_rfl) (List.cons_ne_nil _ _) ?_
                refine AllReadyIn.cons rfl (fun K hK => ?_) AllReadyIn.nil
                refine step_in rfl ?_
                go_simp
                refine hK _ _ ?_
                clear hK K
                refine wpAnyIn_done (by kernel_rfl) ?_ _
                gi_wp2
                exact HEND.out
              refine AllReadyIn.cons rfl (fun K hK => ?_) AllReadyIn.nil
              · refine step_in rfl ?_
                go_simp
                refine hK _ _ ?_
                clear hK K
                refine wpAnyIn_ready (rs := [0]) (by kernel_rfl) (List.cons_ne_nil _ _) ?_
                refine AllReadyIn.cons rfl (fun K hK => ?_) AllReadyIn.nil
                refine step_in rfl ?_
                go_simp
                refine hK _ _ ?_
                clear hK K
                refine wpAnyIn_ready (rs := [5]) (by kernel_rfl) (List.cons_ne_nil _ _) ?_
                refine AllReadyIn.cons rfl (fun K hK => ?_) AllReadyIn.nil
                refine step_appIn rfl (.tmp 19) (.tmp 23) rfl hrun8 rfl rfl (hK _ _ ?_)
                clear hK K
                refine wpAnyIn_ready (rs := [6]) (by kernel_rfl) (List.cons_ne_nil _ _) ?_
                refine AllReadyIn.cons rfl (fun K hK => ?_) AllReadyIn.nil
                refine step_in rfl ?_
                go_simp
                refine hK _ _ ?_
                clear hK K
                refine wpAnyIn_done (by kernel_rfl) ?_ _
                gi_wp2
                exact HEND.out
      · rw [ho] at KO
        have hE := kidT_snoc f i k pre x
        rw [ho, if_pos rfl] at hE
        have HE := Lib.hid hE
        have HN := Lib.hid hnil
        clear IH hnil hE
        gi_wp2_with (refine ⟨trivial, ?_⟩; gi_at_call 105; refine (CallsIn.inRound l (callsIn_wide.2 KO)).mono ?_; rintro e w6 ⟨rfl, hb6⟩)
        refine ⟨(KeepsOthers.of_below hb6).from _, ⟨hb6.mono hBs, hb6.block _ bM.lt, hb6.block _ bT.lt⟩, ?_, ?_, ?_, ?_, hB.trans (hb6.mono hBs)⟩
        · rw [HE.out]
          exact ⟨v, (hb6.block _ hv.lt).trans hv, OwnS.up (show OwnS W _ v (txs (kidT f i k pre)) from hrow) hb6, HN.out⟩
        · exact (hb6.block _ bF.lt).trans bF
        · exact (hb6.block _ bM.lt).trans bM
        · exact (hb6.block _ bT.lt).trans bT
    case done =>
      rintro D ys W hD hS ⟨⟨v, hv, hrow, hnil⟩, bF, bM, bT, hB⟩ hK
      have hl : kidT f i k ys = (kids f i).map (treeT f k) := by rw [hS]; exact kidT_all f i k _ (Nat.le_refl _)
      have hrowS : OwnS W w.heap.size v (txs (kidT f i k ys)) := hrow
      obtain ⟨A5, c5, rfl, hR5⟩ := hrowS.slice_
      have hz5 : (txs (kidT f i k ys)).length = 0 → A5 = none ∧ c5 = 0 := fun h0 => by
        have := hnil (List.eq_nil_of_length_eq_zero (by rw [txs_len] at h0; exact h0))
        injection this with q1 _ q2
        exact ⟨q1, q2⟩
      have hn5 : (txs (kidT f i k ys)).length ≤ 7 := by rw [txs_len, hl, List.length_map]; exact Nat.le_trans (kids_len f i) h7
      have KI := inOrder_c A5 _ c5 (kidT f i k ys) _ hR5 hz5 (by omega)
      have hJ : (Lib.join (srt (kidT f i k ys)) []).length ≤ 7 * 9 ^ k := by
        rw [hl]; exact kidJ_len h7 (k := k) (fun j => by have := treeT_len h7 k j; omega) i
      have h9 := nine_le (k := k) (by omega)
      have hc := hv.cell
      have hTT : treeT f (k + 1) i = [40] ++ Lib.join (srt (kidT f i k ys)) [] ++ [41] := by rw [hl]; rfl
      have HTT := Lib.hid hTT
      have hs1 : ¬ (9223372036854775807 < (⟨#[40]⟩ : ByteArray).size + (⟨(Lib.join (srt (kidT f i k ys)) []).toArray⟩ : ByteArray).size) := by
        show ¬ (9223372036854775807 < 1 + (Lib.join (srt (kidT f i k ys)) []).toArray.size)
        rw [List.size_toArray]; omega
      clear hTT hS hnil hrow hl
      gi_wp2_with (first
        | (refine ⟨trivial, ?_⟩; gi_at_call 83; refine (callsIn_wide.2 KI).mono ?_; rintro e w5 ⟨v5, rfl, hO5, hb5⟩; obtain ⟨A6, c6, rfl, hR6⟩ := hO5.slice_)
        | (refine ⟨trivial, ?_⟩; gi_at_call 82; refine (callsIn_wide.2 (join_c A6 _ c6 (srt (kidT f i k ys)) ⟨#[]⟩ _ hR6 (by rw [txs_len, srt_len, ← txs_len]; omega) (by show (Lib.join (srt (kidT f i k ys)) []).length ≤ _; omega))).mono ?_; rintro e w6 ⟨rfl, hb6⟩))
      have hDl : D < W.heap.size := (Array.getElem?_eq_some_iff.1 hK).1
      have hK6 : w6.heap[D]? = some (.deferred (some [])) := (hb6.block D (Nat.lt_of_lt_of_le hDl hb5.size)).trans ((hb5.block D hDl).trans hK)
      have hz6 := hb5.size
      have hBe : Below w.heap.size w w6 := (hB.trans (hb5.mono hB.size)).trans (hb6.mono (by have := hB.size; omega))
      refine ⟨by simp, .inl ⟨_, _, rfl, run_takeDeferred hK6, ?_⟩⟩
      refine ⟨_, results_tmp rfl _ _ _, ?_, hBe.trans (belowK_b (w := w) (Nat.le_refl _) w6 D _ _ (by omega) hK6 rfl rfl)⟩
      exact congrArg (fun z => Ending.returned (.string z)) (str_br HTT.out)
    case stop =>
      rintro D c pre W _ _ h _
      exact h.elim
end Go.Proofs.Ytnpjelekpkgbpaa
