/- Bundle VD. -/
import Derived.Shelf.Strings.OnBuilder
import Derived.WalkSmall
import Derived.Sort.OwnSorted
import Derived.Lib.OwnBridge
import Derived.BigQuiet
import Derived.Test.YtoinlkdmfclnbaaGreatDoorYSh
import Derived.Test.YtoinlkdmfclnbaaGreatDoorYV18
import Derived.Test.YtoinlkdmfclnbaaGreatDoorYV5
import Derived.Test.YtoinlkdmfclnbaaGreatDoorYV6
import Derived.Test.YtoinlkdmfclnbaaGreatDoorYV7
import Derived.Test.YtoinlkdmfclnbaaGreatDoorYV8
import Derived.Test.YtoinlkdmfclnbaaGreatDoorYV9
import Derived.Test.YtoinlkdmfclnbaaGreatDoorYVC
namespace Go.Proofs.YtoinlkdmfclnbaaGreatDoor
set_option linter.unusedVariables false
section
open Go.Shelf Go.RowKit
def jRen : Go.Shelf.Ren := ⟨fun | 156 => 149 | 165 => 180 | 166 => 91 | 169 => 93 | 240 => 136 | 241 => 209 | 276 => 168 | 277 => 234 | n => n, fun | 0 => 0 | 3 => 3 | 4 => 4 | 5 => 5 | 9 => 9 | 20 => 20 | 31 => 34 | 37 => 22 | 70 => 102 | 72 => 104 | 75 => 106 | 76 => 107 | 80 => 110 | 127 => 125 | 164 => 134 | n => n, fun n => n⟩
theorem jLays156 : Go.Proofs.Lays.n156 Tryz.prog jRen := {
 mixed := by kernel_rfl
 f156 := Tryz.func149.trans (congrArg some (by kernel_rfl))
 f165 := Tryz.func180.trans (congrArg some (by kernel_rfl))
 f166 := Tryz.func91.trans (congrArg some (by kernel_rfl))
 f169 := Tryz.func93.trans (congrArg some (by kernel_rfl))
 f240 := Tryz.func136.trans (congrArg some (by kernel_rfl))
 f241 := Tryz.func209.trans (congrArg some (by kernel_rfl))
 f276 := Tryz.func168.trans (congrArg some (by kernel_rfl))
 f277 := Tryz.func234.trans (congrArg some (by kernel_rfl))
 t0 := Tryz.underlying0
 a0 := Tryz.isAgg0
 z0 := Tryz.sizeOf0
 v0 := Tryz.zeroValue0
 t3 := Tryz.underlying3
 a3 := Tryz.isAgg3
 z3 := Tryz.sizeOf3
 v3 := Tryz.zeroValue3
 t4 := Tryz.underlying4
 a4 := Tryz.isAgg4
 z4 := Tryz.sizeOf4
 v4 := Tryz.zeroValue4
 t9 := Tryz.underlying9
 a9 := Tryz.isAgg9
 z9 := Tryz.sizeOf9
 v9 := Tryz.zeroValue9
 t20 := Tryz.underlying20
 a20 := Tryz.isAgg20
 z20 := Tryz.sizeOf20
 v20 := Tryz.zeroValue20
 t31 := Tryz.underlying34
 a31 := Tryz.isAgg34
 z31 := Tryz.sizeOf34
 v31 := Tryz.zeroValue34
 t37 := Tryz.underlying22
 a37 := Tryz.isAgg22
 z37 := Tryz.sizeOf22
 v37 := Tryz.zeroValue22
 t70 := Tryz.underlying102
 a70 := Tryz.isAgg102
 z70 := Tryz.sizeOf102
 v70 := Tryz.zeroValue102
 t72 := Tryz.underlying104
 a72 := Tryz.isAgg104
 z72 := Tryz.sizeOf104
 v72 := Tryz.zeroValue104
 t75 := Tryz.underlying106
 a75 := Tryz.isAgg106
 z75 := Tryz.sizeOf106
 v75 := Tryz.zeroValue106
 t76 := Tryz.underlying107
 a76 := Tryz.isAgg107
 z76 := Tryz.sizeOf107
 v76 := Tryz.zeroValue107
 t127 := Tryz.underlying125
 a127 := Tryz.isAgg125
 z127 := Tryz.sizeOf125
 v127 := Tryz.zeroValue125
 t164 := Tryz.underlying134
 a164 := Tryz.isAgg134
 z164 := Tryz.sizeOf134
 v164 := Tryz.zeroValue134 }
theorem jExtra : Builder.Extra Tryz.prog jRen := {
 sizeBuilder := by kernel_rfl
 liesBuilder := by kernel_rfl
 t5 := Tryz.underlying5
 a5 := Tryz.isAgg5
 z5 := Tryz.sizeOf5
 v5 := Tryz.zeroValue5
 infoByte := by kernel_rfl
 cellsByte := by kernel_rfl
 sizeByte := by kernel_rfl
 neB5 := by decide }
def bys (ts : List ByteArray) : List Tx := ts.map (·.data.toList)
def txs (l : List Tx) : List ByteArray := l.map (fun t => ⟨t.toArray⟩)
theorem bys_txs (l : List Tx) : bys (txs l) = l := by unfold bys txs; rw [List.map_map]; exact (List.map_congr_left fun x _ => by simp).trans (List.map_id' l)
theorem txs_len (l : List Tx) : (txs l).length = l.length := by simp [txs]
theorem join_c (A : Option Addr) (n c : Nat) (l : List Tx) (sep : ByteArray) (w : World) (h : RdT w w.heap.size A n c (txs l)) (hn : n ≤ 1000) (hlen : (Lib.join l sep.data.toList).length ≤ 140737488355328) :
    Calls Tryz.prog 149 #[.slice A n c, .string sep] w fun e w' => e = .returned (.string ⟨(Lib.join l sep.data.toList).toArray⟩) ∧ Below w.heap.size w w' := by
 have hl := h.len
 rcases n with _ | n
 · have e : l = [] := by rw [txs_len] at hl; exact List.eq_nil_of_length_eq_zero hl
   subst e
   exact (Any.strings_Join_none jLays156 jExtra A c sep w).mono fun e w' ⟨h1, h2⟩ => ⟨h1, h2 ▸ Below.refl _ _⟩
 · obtain ⟨b, off, rfl, hb, h0⟩ := h.at_ (k := 0) (by omega)
   have := Any.strings_Join jLays156 jExtra b off c (txs l) sep w (fun j x hx => by
    have hj : j < (txs l).length := by
     rcases Nat.lt_or_ge j (txs l).length with h1 | h1
     · exact h1
     · rw [List.getElem?_eq_none h1] at hx; cases hx
    obtain ⟨b', off', e, _, h1⟩ := h.at_ (k := j) (by omega)
    cases e
    rw [h1, gT_get hj]
    rw [List.getElem?_eq_getElem hj] at hx
    exact congrArg (fun z => some (Value.string z)) (Option.some.inj hx)) hb (by omega) (by rw [hl]; exact h.cap) (by rw [show (txs l).map (·.data.toList) = l from bys_txs l]; exact hlen)
   rw [hl, show (txs l).map (·.data.toList) = l from bys_txs l] at this
   exact this
end
section
open Go.RowKit Go.Sort Go.Shelf
theorem app_texts {ops : Array Oper} {rest : List Oper} {o : Oper} {a : Act} {Q : Exit → Act → World → Prop} (w : World) (hgd : o.guard = none) (s x : Operand)
    (ho : o.op = .call { callee := .builtin .append, args := #[s, x], argTypes := #[34, 34] })
    (B : Nat) (v : Value) (hs : a.eval s = v) (hown : OwnS w B v []) (A : Option Addr) (n c : Nat) (ts : List ByteArray) (hx : a.eval x = .slice A n c) (hr : RdT w w.heap.size A n c ts) (h0 : 0 < n)
    (hlen : n ≤ 1000000000000) (hB : B ≤ w.heap.size)
    (h : ∀ v' w', OwnS w' B v' ts → Below B w w' → wpList Tryz.prog ops Q rest (a.put o.dst v') w') :
    wpList Tryz.prog ops Q (o :: rest) a w := by
 obtain ⟨i0, hi, hz0, hz1, hz2⟩ := info_parts text_info
 obtain ⟨b, off, rfl, hb, hcell⟩ := hr.2.2.2 h0
 have hl := hr.len
 refine wpList_append_own _ hgd s x 34 ho B 9 i0 (.string ⟨#[]⟩) 1 16 Tryz.underlying34 hi hz0 hz1 hz2 rfl (by decide) v 0 [] hs (by simpa [OwnS] using hown) ⟨b, off, none⟩ n c (ts.map Value.string) hx (by simp [hl]) (fun j u hj => ?_) (by simp [Value.oneCell']) (by unfold maxLen; omega) (by omega) (by omega) ?_
 · have hjn : j < n := by
    rcases Nat.lt_or_ge j (ts.map Value.string).length with h' | h'
    · rw [List.length_map, hl] at h'; exact h'
    · rw [List.getElem?_eq_none h'] at hj; cases hj
   rw [Addr.add_lit, hcell j hjn]
   rw [List.getElem?_map, List.getElem?_eq_getElem (by omega)] at hj
   simp only [Option.map_some, Option.some.injEq] at hj
   rw [← hj, gT_get (by omega)]
 · intro v' w' hown' hg _
   refine h v' w' ?_ ((Below.refl B w).grown hg hB (fun k hk => (hown.lt k hk).1))
   unfold OwnS
   rw [hl]
   simpa using hown'
set_option maxHeartbeats 400000 in
theorem cloneS_c (A : Option Addr) (n c : Nat) (ts : List ByteArray) (w : World) (h : RdT w w.heap.size A n c ts) (h0 : 0 < n) (hn : n ≤ 1000000000000) :
    Calls Tryz.prog 212 #[.slice A n c] w fun e w' => ∃ v, e = .returned v ∧ OwnS w' w.heap.size v ts ∧ Below w.heap.size w w' := by
 obtain ⟨b, off, rfl, hb, hcell⟩ := h.2.2.2 h0
 have hl := h.len
 have hb1 : Below w.heap.size w (w.alloc (.cells #[] 9)) := (Below.refl _ _).alloc (Nat.le_refl _) _
 have hO := OwnS.made w w.heap.size #[] (Nat.le_refl _) rfl
 have hrd := h.up hb1
 have hs1 := hb1.size
 have hnil : (binOp .eql 34 (.slice (some ⟨b, off, none⟩) n c) (.slice none 0 0)).run Tryz.prog w = .ok (.bool false) w := by
  apply Lib.run_eql_slice_nil
  exact Tryz.underlying34
 go_enter Tryz.func212, Tryz.ntmps212
 go_wp2_with (at_builtin; refine app_texts (w.alloc (.cells #[] 9)) rfl _ _ rfl w.heap.size _ rfl hO (some ⟨b, off, none⟩) n c ts rfl hrd h0 hn hs1 ?_; intro v' w' hown' hb')
 go_ret
 exact ⟨v', rfl, hown', hb1.trans hb'⟩
theorem cloneS_nil (w : World) : Calls Tryz.prog 212 #[.slice none 0 0] w fun e w' => e = .returned (.slice none 0 0) ∧ w' = w := by
 have hnil : (binOp .eql 34 (.slice none 0 0) (.slice none 0 0)).run Tryz.prog w = .ok (.bool true) w := by
  apply Lib.run_eql_slice_nil
  exact Tryz.underlying34
 go_enter Tryz.func212, Tryz.ntmps212
 go_wp2
 go_ret
 exact ⟨rfl, rfl⟩
theorem txs_enc (l : List Tx) : (txs l).map Value.string = l.map encStr := by
 unfold txs; rw [List.map_map]; exact List.map_congr_left fun x _ => rfl
theorem sortS_c (B : Nat) (v : Value) (l : List Tx) (w : World) (h : OwnS w B v (txs l)) (hl : l.length ≤ 1000000000000) (hB : B ≤ w.heap.size) :
    Calls Tryz.prog 213 #[v] w fun e w' => e = .returned (.tuple #[]) ∧ OwnS w' B v (txs (srt l)) ∧ Below B w w' := by
 have h' : w.ownsRow B 9 1 v l.length (l.map encStr) := by
  have := h; unfold OwnS at this; rw [txs_len, txs_enc] at this; exact this
 have hsl : (srt l).length = l.length := List.length_mergeSort l
 rcases h'.2 with ⟨rfl, h0⟩ | ⟨g, cap, cur, rfl, hb, hg, hn, hm, hs, ht⟩
 · have e : l = [] := by simpa using h0
   subst e
   exact (AnyM.slices_Sort_string_none sortStrA none 0 w).mono fun e w' ⟨h1, h2⟩ => ⟨h1, by subst h2; rw [show srt [] = [] from by simp [srt]]; exact OwnS.nil_ _ _, by subst h2; exact Below.refl _ _⟩
 · have hlt : g < w.heap.size := (Array.getElem?_eq_some_iff.1 hg).1
   refine (AnyM.slices_Sort_string sortStrA g 0 cap l w (holds_of_block hg (by simpa using ht)) hlt (by omega)).mono ?_
   rintro e w' ⟨rfl, n, os, rfl⟩
   refine ⟨rfl, ?_, (Below.refl B w).grown (grownBy_sorted _) hB (fun k hk => by cases hk; exact hb)⟩
   have := ownsRow_sorted (w := w) (n := n) (os := os) (ss := l) (ts := srt l) hsl hb hg hn hm hs
   unfold OwnS
   rw [txs_len, txs_enc, hsl]
   exact this
def InO (w : World) (l : List Tx) (e : Ending) (w' : World) : Prop := ∃ v, e = .returned v ∧ OwnS w' w.heap.size v (txs (srt l)) ∧ Below w.heap.size w w'
theorem inOrder_c (A : Option Addr) (n c : Nat) (l : List Tx) (w : World) (h : RdT w w.heap.size A n c (txs l)) (hz : n = 0 → A = none ∧ c = 0) (hn : n ≤ 1000) :
    Calls Tryz.prog 182 #[.slice A n c] w (InO w l) := by
 have hl := h.len
 rw [txs_len] at hl
 rcases Nat.eq_zero_or_pos n with h0 | h0
 · obtain ⟨rfl, rfl⟩ := hz h0
   subst h0
   have e : l = [] := List.eq_nil_of_length_eq_zero hl
   subst e
   go_enter Tryz.func182, Tryz.ntmps182
   go_wp2_with fail
   refine (cloneS_nil _).mono ?_
   rintro e w1 ⟨rfl, rfl⟩
   go_wp2_with fail
   refine (sortS_c w1.heap.size _ [] _ (OwnS.nil_ _ _) (by simp) (Nat.le_refl _)).mono ?_
   rintro e w2 ⟨rfl, hO, hb⟩
   go_wp2_with fail
   go_ret
   exact ⟨_, rfl, hO, hb⟩
 · go_enter Tryz.func182, Tryz.ntmps182
   go_wp2_with fail
   refine (cloneS_c A n c _ _ h h0 (by omega)).mono ?_
   rintro e w1 ⟨v, rfl, hO1, hb1⟩
   go_wp2_with fail
   refine (sortS_c w.heap.size _ l _ hO1 (by omega) hb1.size).mono ?_
   rintro e w2 ⟨rfl, hO, hb⟩
   go_wp2_with fail
   go_ret
   exact ⟨_, rfl, hO, hb1.trans hb⟩
end
section
open Go.RowKit Go.Shelf
attribute [local go_sem] Oper.semAt_some
abbrev Led (f : List Nat) (i : Nat) := { x : Nat // x < f.length ∧ nx f x = i }
def encL {f : List Nat} {i : Nat} (x : Led f i) : Array Value := #[Value.int .i64 (x.1 : Int)]
def froP (f : List Nat) (i : Nat) : Nat → List (Led f i)
 | 0 => []
 | k + 1 => if h : k < f.length ∧ nx f k = i then froP f i k ++ [⟨k, h⟩] else froP f i k
theorem froP_len (f : List Nat) (i : Nat) : ∀ k, (froP f i k).length ≤ k
 | 0 => Nat.le_refl _
 | k + 1 => by
  have := froP_len f i k
  unfold froP; split
  · rw [List.length_append]; simp; omega
  · omega
theorem froP_t {f : List Nat} {i k : Nat} (h : k < f.length ∧ nx f k = i) : froP f i (k + 1) = froP f i k ++ [⟨k, h⟩] := by rw [froP, dif_pos h]
theorem froP_f {f : List Nat} {i k : Nat} (h : ¬ nx f k = i) : froP f i (k + 1) = froP f i k := by rw [froP, dif_neg (fun h' => h h'.2)]
def kidT (f : List Nat) (i k : Nat) (pre : List (Led f i)) : List Tx := (pre.filter (fun x => !onL f x.1)).map (fun x => treeT f k x.1)
theorem kidT_all (f : List Nat) (i k : Nat) : ∀ m, m ≤ f.length → kidT f i k (froP f i m) = (kidsK f i m).map (treeT f k)
 | 0, _ => rfl
 | m + 1, hm => by
  have ih := kidT_all f i k m (by omega)
  unfold kidsK at ih ⊢
  rw [List.range_succ, List.filter_append, List.map_append, ← ih]
  by_cases h : nx f m = i
  · rw [froP_t ⟨by omega, h⟩]
    unfold kidT
    rw [List.filter_append, List.map_append]
    congr 1
    rcases ho : onL f m with _ | _ <;> simp [ho, h]
  · rw [froP_f h]
    simp [h]
theorem kidT_snoc (f : List Nat) (i k : Nat) (pre : List (Led f i)) (x : Led f i) : kidT f i k (pre ++ [x]) = if onL f x.1 then kidT f i k pre else kidT f i k pre ++ [treeT f k x.1] := by
 unfold kidT
 rw [List.filter_append, List.map_append]
 rcases ho : onL f x.1 with _ | _ <;> simp [ho]
def KpB (n₀ Bm Bt : Nat) (W W' : World) : Prop := Below n₀ W W' ∧ W'.heap[Bm]? = W.heap[Bm]? ∧ W'.heap[Bt]? = W.heap[Bt]?
theorem KpB.refl (n₀ Bm Bt : Nat) (W : World) : KpB n₀ Bm Bt W W := ⟨Below.refl _ _, rfl, rfl⟩
theorem KpB.trans {n₀ Bm Bt : Nat} {X Y Z : World} (h : KpB n₀ Bm Bt X Y) (k : KpB n₀ Bm Bt Y Z) : KpB n₀ Bm Bt X Z := ⟨h.1.trans k.1, k.2.1.trans h.2.1, k.2.2.trans h.2.2⟩
theorem kpB_b {n₀ Bm Bt S : Nat} (hn : n₀ ≤ S) (hm : Bm < S) (ht : Bt < S) : ∀ (W : World) (l : Nat) (o o' : Obj), S ≤ l → W.heap[l]? = some o → o.isCells = false → o.isWalk = false → KpB n₀ Bm Bt W (W.putObj l o') :=
 fun W l o o' hl h1 h2 h3 => ⟨(Below.refl n₀ W).grown (grownBy_putObj' W l o') (by have := (Array.getElem?_eq_some_iff.1 h1).1; omega) (fun k e => by cases e; omega), World.putObj_heap_other (by omega), World.putObj_heap_other (by omega)⟩
def SeqL (f : List Nat) (i : Nat) (g : Nat) (lb : Array Value) (n₀ Bm Bt : Nat) (w : World) : Prop :=
 SeqStopsK Fence.wide 3 Tryz.prog g lb (encL (f := f) (i := i)) (KpB n₀ Bm Bt) (fun ys => ys = froP f i f.length) (fun _ => True) 100 w
set_option maxRecDepth 100000 in
set_option maxHeartbeats 2000000 in
theorem fromL_in (l Bm Bt n₀ : Nat) (A : Option Addr) (c : Nat) (f : List Nat) (i : Nat) (hn : f.length ≤ 100) (J Jx : List (Led f i) → World → Prop) (W : World) (hr : Rd W n₀ A f.length c (ints f))
    (hY : ∀ pre x W, J pre W → pre.length < 100 → YieldAt Fence.wide 2 Tryz.prog l (encL x) W fun e W' =>
     (e = .returned (.bool true) ∧ J (pre ++ [x]) W' ∧ KpB n₀ Bm Bt W W') ∨ (e = .returned (.bool false) ∧ Jx (pre ++ [x]) W'))
    (hm : W.cell? ⟨Bm, 0, none⟩ = some (.slice A f.length c)) (ht : W.cell? ⟨Bt, 0, none⟩ = some (.int .i64 (i : Int))) (h0 : J [] W) :
    CallsIn Fence.wide 3 Tryz.prog 243 #[.func (.yield l) #[] #[], .pointer (some ⟨Bm, 0, none⟩), .pointer (some ⟨Bt, 0, none⟩)] W fun e W' => (∃ v, e = .returned v) ∧
     ((∃ ys, ys = froP f i f.length ∧ J ys W') ∨ (∃ pre, True ∧ Jx pre W')) := by
 have hcp := hr.cap
 have hmx := hr.max
 unfold maxLen at hmx
 refine callsIn_of_wp Tryz.func243 rfl trivial ?_ rfl
 simp only [Tryz.ntmps243, List.size_toArray, List.length_cons, List.length_nil, Nat.reduceAdd, Nat.reduceSub, Array.replicate_succ, Array.replicate_zero, List.push_toArray, List.append_toArray, List.nil_append, List.cons_append]
 gi_wp2
 gi_loopw [8] (fun i' wr => ∃ k : Nat, k ≤ f.length ∧ i' = .int .i64 k ∧ J (froP f i k) wr ∧ KpB n₀ Bm Bt W wr) (fun i' _ => f.length - (intOf i').toNat)
 case atStart => exact ⟨0, Nat.zero_le _, rfl, h0, KpB.refl _ _ _ _⟩
 case round =>
  obtain ⟨k, hk, rfl, hJ, hb⟩ := hrel
  have ht2 := (World.cell?_of_block (w := W) (a := ⟨Bt, 0, none⟩) hb.2.2).trans ht
  clear ht hm
  by_cases hlt : k < f.length
  · obtain ⟨b, off, rfl, hbb, hcell⟩ := (hr.below hb.1).at_ hlt
    rw [gI_ints] at hcell
    have hfl := froP_len f i k
    by_cases he : nx f k = i
    · obtain ⟨x, hx, hT⟩ : ∃ x : Led f i, x.1 = k ∧ froP f i (k + 1) = froP f i k ++ [x] := ⟨⟨k, hlt, he⟩, rfl, froP_t ⟨hlt, he⟩⟩
      have HT := Lib.hid hT
      have hq : ((nx f k : Int) == (i : Int)) = true := by rw [he]; simp
      obtain ⟨fn, tmps, assign, body, hy, hR⟩ := hY _ x wr hJ (by omega)
      have HE := Lib.hid he
      dsimp only [encL] at hy
      rw [hx] at hy
      clear he hx hT
      gi_wp2
      refine hR.mono ?_
      rintro e W3 (⟨rfl, hJ3, hk3⟩ | ⟨rfl, hJx3⟩)
      · gi_wp2
        go_roundw
        case rel => exact ⟨k + 1, by omega, by simp, by rw [HT.out]; exact hJ3, hb.trans hk3⟩
        case measure => simp [intOf]; omega
      · gi_wp2
        refine bodyPost_ret (results_none rfl _ _ _) rfl ?_
        exact ⟨⟨_, rfl⟩, .inr ⟨_, trivial, hJx3⟩⟩
    · have HT := Lib.hid (froP_f he)
      have hq : ((nx f k : Int) == (i : Int)) = false := by rw [beq_eq_false_iff_ne]; omega
      have HE := Lib.hid he
      clear he
      gi_wp2
      refine ⟨fun _ h => (by cases h), ?_⟩
      gi_wp2
      go_roundw
      case rel => exact ⟨k + 1, by omega, by simp, by rw [HT.out]; exact hJ, hb⟩
      case measure => simp [intOf]; omega
  · obtain rfl : k = f.length := by omega
    gi_wp2
    go_end0
    exact ⟨⟨_, rfl⟩, .inl ⟨_, rfl, hJ⟩⟩
theorem fromL_seq (A : Option Addr) (c : Nat) (f : List Nat) (i : Nat) (n₀ : Nat) (w : World) (h : Rd w n₀ A f.length c (ints f)) (hn : f.length ≤ 100) (hn0 : n₀ ≤ w.heap.size) :
    SeqL f i 243 #[.pointer (some ⟨w.heap.size, 0, none⟩), .pointer (some ⟨w.heap.size + 1, 0, none⟩)] n₀ w.heap.size (w.heap.size + 1) ((w.alloc (.cells #[.slice A f.length c] 124)).alloc (.cells #[.int .i64 (i : Int)] 3)) := by
 have bM := Boxed.new w 124 (.slice A f.length c)
 have bM2 := bM.alloc (.cells #[.int .i64 (i : Int)] 3)
 have bT := Boxed.new (w.alloc (.cells #[.slice A f.length c] 124)) 3 (.int .i64 (i : Int))
 rw [World.size_alloc] at bT
 have hb : Below n₀ w ((w.alloc (.cells #[.slice A f.length c] 124)).alloc (.cells #[.int .i64 (i : Int)] 3)) := ((Below.refl _ w).alloc hn0 _).alloc (by simp; omega) _
 have hr := h.below hb
 have hlt := bT.lt
 intro l J Jx W hW _ _ hY h0
 exact fromL_in l w.heap.size (w.heap.size + 1) _ A c f i hn J Jx W (hr.below (hW.mono (by simp; omega))) hY ((hW.cell (p := ⟨w.heap.size, 0, none⟩) bM2.lt).trans bM2.cell) ((hW.cell (p := ⟨w.heap.size + 1, 0, none⟩) hlt).trans bT.cell) h0
end
section
open Go.RowKit Go.Shelf
attribute [local go_sem] Oper.semAt_some
theorem kidT_len (f : List Nat) (i k : Nat) (pre : List (Led f i)) : (kidT f i k pre).length ≤ pre.length := by unfold kidT; rw [List.length_map]; exact List.length_filter_le _ _
theorem tl_min {f : List Nat} (hf : MapN f) {k : Nat} (hk : k < f.length) (a : Nat) (ho : onL f (it f a k) = true) : tl f k ≤ a := by
 obtain ⟨p, hp, e⟩ := (onL_iff hf (it_lt hf hk a)).1 ho
 rw [← it_add] at e
 rcases Nat.lt_or_ge a (tl f k) with h | h
 · exfalso
   -- it_(a) comes again at a + p*q, far behind the tail
   have hq : ∀ q, it f (a + q * p) k = it f a k := fun q => by
    induction q with
    | zero => simp
    | succ q ih => rw [show a + (q + 1) * p = q * p + (p + a) by rw [Nat.add_mul]; omega, it_add, e, ← it_add, Nat.add_comm, ih]
   have hge : tl f k ≤ a + tl f k * p := by have := Nat.mul_le_mul_left (tl f k) hp; omega
   have h1 := it_mod hf hk _ hge
   rw [hq] at h1
   have hlt := Nat.mod_lt (a + tl f k * p - tl f k) (ll_pos hf hk)
   have htl := (tl_is hf hk).1
   have := orb_inj (wl_isWay hf hk).nodup (a := a) (b := tl f k + (a + tl f k * p - tl f k) % ll f k) (by omega) (by unfold ll at hlt ⊢; omega) h1
   omega
 · exact h
theorem tl_kid {f : List Nat} (hf : MapN f) {i x : Nat} (hi : i < f.length) (hx : x < f.length) (e : nx f x = i) (ho : onL f x = false) : tl f x = tl f i + 1 := by
 have h0 : tl f x ≠ 0 := by intro h; unfold onL at ho; rw [h] at ho; simp at ho
 have hs : ∀ a, it f a i = it f (a + 1) x := fun a => by rw [it_add, it_one, e]
 refine Nat.le_antisymm ?_ ?_
 · exact tl_min hf hx (tl f i + 1) (by rw [← hs]; exact onL_it hf hi _ (Nat.le_refl _))
 · have := tl_min hf hi (tl f x - 1) (by rw [hs, show tl f x - 1 + 1 = tl f x by omega]; exact onL_it hf hx _ (Nat.le_refl _))
   omega
theorem Boxed.thru {w7 w8 : World} {B B' n₀ k : Nat} {t e : TypeId} {u v : Value} {xs : List Value} {tmp : Obj} (h : Boxed w7 B t u) (hte : t ≠ e) (hrow : w7.ownsRow n₀ e 1 v k xs) (hgrow : (w7.alloc tmp).grownBy w8 v.ownBlock) (hne : B ≠ B') (x : Value) : Boxed (w8.setCell ⟨B', 0, none⟩ x) B t u :=
 ((h.alloc tmp).kept hgrow (h.not_row hte hrow)).other hne x
theorem str_br {t J : Tx} (h : t = [40] ++ J ++ [41]) : (⟨#[40]⟩ ++ ⟨J.toArray⟩ ++ ⟨#[41]⟩ : ByteArray) = ⟨t.toArray⟩ := by
 rw [h]; apply ByteArray.ext; simp
theorem txs_app (l : List Tx) (t : Tx) : txs (l ++ [t]) = txs l ++ [⟨t.toArray⟩] := by unfold txs; rw [List.map_append]; rfl
theorem kid_row {W : World} {n₀ B : Nat} {v : Value} {l l' : List Tx} {t : Tx} (he : l' = l ++ [t]) (hv : Boxed W B 34 v) (hr : W.ownsRow n₀ 9 1 v ((txs l).length + 1) ((txs l).map Value.string ++ [.string ⟨t.toArray⟩])) :
    ∃ v, Boxed W B 34 v ∧ W.ownsRow n₀ 9 1 v (txs l').length ((txs l').map Value.string) ∧ (l' = [] → v = .slice none 0 0) :=
 ⟨v, hv, by rw [he, txs_app, List.length_append, List.map_append]; exact hr, fun h => by rw [he] at h; simp at h⟩
theorem step_in {F : Fence} {n : Nat} {P : Program} {ops : Array Oper} {o : Oper} {a : Act} {w : World} {K : Act → World → Prop} {Q : Exit → Act → World → Prop} {E : Prop} (hgd : o.guard = none) (h : Oper.wpIn F n P o a w K Q) :
    if Region.wanted o (yielded ops a.tmps) = true then Oper.wpIn F n P o a w K Q else E := by
 rw [if_pos (by simp [Region.wanted, hgd])]
 exact h
theorem step_appIn {F : Fence} {n : Nat} {P : Program} {ops : Array Oper} {o : Oper} {a : Act} {w : World} {K : Act → World → Prop} {Q : Exit → Act → World → Prop} {E : Prop} (hgd : o.guard = none) (s x : Operand) {t : TypeId}
    (hop : o.op = Op.call { callee := Callee.builtin Builtin.append, args := #[s, x], argTypes := #[t, t] }) {u y v' : Value} {w' : World} (hrun : (Builtin.append_ #[t, t] o.type #[u, y]).run P w = .ok v' w') (hs : a.eval s = u) (hx : a.eval x = y) (h : K (a.put o.dst v') w') :
    if Region.wanted o (yielded ops a.tmps) = true then Oper.wpIn F n P o a w K Q else E := by
 refine step_in hgd ?_
 unfold Oper.wpIn
 refine ⟨?_, ?_⟩
 · simp [Oper.about, hop, resolve, Target.leads, Sem.run_pure]
 · rw [Oper.semAt_plain F _ _ (by rw [hop]; intro c hc'; cases hc')]
   simp [execOp, hop, resolve, invoke, builtin, hs, hx, hrun, Result.andThen]
   exact h
def Txt (w : World) (t : Tx) (e : Ending) (w' : World) : Prop := e = .returned (.string ⟨t.toArray⟩) ∧ Below w.heap.size w w'
theorem KeepsOthers.of_below {W W' : World} (h : Below W.heap.size W W') : KeepsOthers W W' :=
 ⟨h.size, fun k o hk _ => (h.block k (Array.getElem?_eq_some_iff.1 hk).1).trans hk⟩
theorem flat_len {ts : List Tx} {M : Nat} (h : ∀ t ∈ ts, t.length ≤ M) : ts.flatten.length ≤ ts.length * M := by
 induction ts with
 | nil => simp
 | cons x r ih =>
  have h1 := h x (by simp)
  have h2 := ih (fun t ht => h t (by simp [ht]))
  rw [List.flatten_cons, List.length_append, List.length_cons, Nat.add_mul]; omega
theorem srt_len (l : List Tx) : (srt l).length = l.length := List.length_mergeSort l
theorem srt_mem {l : List Tx} {t : Tx} : t ∈ srt l ↔ t ∈ l := (List.mergeSort_perm l leT).mem_iff
theorem kids_len (f : List Nat) (i : Nat) : (kids f i).length ≤ f.length := by
 have := List.length_filter_le (fun j => decide (nx f j = i) && !onL f j) (List.range f.length)
 rw [List.length_range] at this
 exact this
theorem kidJ_len {f : List Nat} (h7 : f.length ≤ 7) {k M : Nat} (h : ∀ i, (treeT f k i).length ≤ M) (i : Nat) : (Lib.join (srt ((kids f i).map (treeT f k))) []).length ≤ 7 * M := by
 rw [join_flat]
 have h1 := flat_len (ts := srt ((kids f i).map (treeT f k))) (M := M) (fun t ht => by
  rw [srt_mem, List.mem_map] at ht
  obtain ⟨j, _, rfl⟩ := ht
  exact h j)
 rw [srt_len, List.length_map] at h1
 have h2 := kids_len f i
 have h3 : (kids f i).length * M ≤ 7 * M := Nat.mul_le_mul_right M (by omega)
 omega
theorem treeT_len {f : List Nat} (h7 : f.length ≤ 7) : ∀ k i, (treeT f k i).length + 1 ≤ 9 ^ k
 | 0, i => by simp [treeT]
 | k + 1, i => by
  have ih := treeT_len h7 k
  have h1 := kidJ_len h7 (k := k) (M := 9 ^ k - 1) (fun j => by have := ih j; omega) i
  have h2 := ih 0
  have e : (treeT f (k + 1) i).length = (Lib.join (srt ((kids f i).map (treeT f k))) []).length + 2 := by
   rw [treeT, List.length_append, List.length_append]
   simp only [List.length_cons, List.length_nil]
   omega
  rw [e, Nat.pow_succ]; omega
theorem nine_le {k : Nat} (h : k ≤ 7) : 9 ^ k ≤ 4782969 := Nat.pow_le_pow_right (by omega) h
set_option maxRecDepth 100000 in
set_option maxHeartbeats 8000000 in
theorem treeText_c {f : List Nat} (hf : MapN f) : ∀ (k i : Nat), k ≤ 7 → i < f.length → f.length ≤ tl f i + k → ∀ (A : Option Addr) (c : Nat) (w : World), Rd w w.heap.size A f.length c (ints f) →
    Calls Tryz.prog 210 #[.slice A f.length c, .int .i64 (i : Int)] w (Txt w (treeT f k i))
 | 0, i, _, hi, ht, A, c, w, h => by have := tl_lt hf hi; omega
 | k + 1, i, hk7, hi, ht, A, c, w, h => by
  have IH := treeText_c hf k
  obtain ⟨i0, hI, hz0, hz1, hz2⟩ := info_parts text_info
  have hat := atOk_ints hf hi
  have h7 := hf.le7
  refine (callsIn_wide (n := 4)).1 ?_
  refine callsIn_of_wp_marks Tryz.func210 rfl trivial ?_ rfl
  simp only [Tryz.ntmps210, List.size_toArray, List.length_cons, List.length_nil, Nat.reduceAdd, Nat.reduceSub, Array.replicate_succ, Array.replicate_zero, List.push_toArray, List.append_toArray, List.nil_append, List.cons_append]
  have bF := Boxed.new w 23 (.slice A f.length c)
  have hB1 : Below w.heap.size w (w.alloc (.cells #[.slice A f.length c] 23)) := (Below.refl _ w).alloc (Nat.le_refl _) _
  have hR1 := h.up hB1
  have K1 := thingOk_c A f.length c (ints f) (i : Int) _ hR1
  rw [hat] at K1
  gi_wp2_with (refine ⟨trivial, ?_⟩; gi_at_call 116; refine (callsIn_wide.2 K1).mono ?_; rintro e w' ⟨rfl, rfl⟩)
  have hB2 : Below w.heap.size w ((w.alloc (.cells #[.slice A f.length c] 23)).alloc (.cells #[.slice none 0 0] 34)) := hB1.alloc (by simp) _
  have bF2 := bF.alloc (.cells #[.slice none 0 0] 34)
  have bP2 := Boxed.new (w.alloc (.cells #[.slice A f.length c] 23)) 34 (.slice none 0 0)
  rw [World.size_alloc] at bP2
  have hs2 : ((w.alloc (.cells #[.slice A f.length c] 23)).alloc (.cells #[.slice none 0 0] 34)).heap.size = w.heap.size + 2 := by simp
  have HS := Lib.hid (fromL_seq A c f i w.heap.size ((w.alloc (.cells #[.slice A f.length c] 23)).alloc (.cells #[.slice none 0 0] 34)) (h.below hB2) (by omega) (by rw [hs2]; omega))
  rw [hs2] at HS
  clear hB1 bF hR1 K1
  generalize (w.alloc (.cells #[.slice A f.length c] 23)).alloc (.cells #[.slice none 0 0] 34) = w2 at *
  refine ⟨trivial, (callsIn_wide.2 (fromSeq_c A f.length c (i : Int) w2)).mono ?_⟩
  rintro e w4 ⟨rfl, hw4⟩
  have hB4 : Below w.heap.size w w4 := by rw [hw4]; exact (hB2.alloc (by omega) _).alloc (by simp; omega) _
  have bF4 : Boxed w4 w.heap.size 23 (.slice A f.length c) := by rw [hw4]; exact (bF2.alloc _).alloc _
  have bP4 : Boxed w4 (w.heap.size + 1) 34 (.slice none 0 0) := by rw [hw4]; exact (bP2.alloc _).alloc _
  have bM4 : Boxed w4 (w.heap.size + 2) 124 (.slice A f.length c) := by rw [hw4, ← hs2]; exact (Boxed.new _ _ _).alloc _
  have bT4 : Boxed w4 (w.heap.size + 3) 3 (.int .i64 (i : Int)) := by
   have := Boxed.new (w2.alloc (.cells #[.slice A f.length c] 124)) 3 (.int .i64 (i : Int))
   rw [World.size_alloc, hs2] at this
   rw [hw4]; exact this
  have hz4 : w.heap.size + 4 ≤ w4.heap.size := by rw [hw4]; simp; omega
  rw [← hw4] at HS
  rw [hs2]
  clear hw4 hs2 bF2 bP2 hB2
  have hmax := h.max
  have hcp := h.cap
  unfold maxLen at hmax
  gi_wp2
  refine wpIn_rangeFunc_ownG rfl (by omega) (gf := 243) (lb := #[.pointer (some ⟨w.heap.size + 2, 0, none⟩), .pointer (some ⟨w.heap.size + 2 + 1, 0, none⟩)]) rfl trivial (enters_of Tryz.func243 (by kernel_rfl) rfl) HS.out KpB.trans (kpB_b (by omega) (by omega) (by omega)) (Below.refl _ _) (fun _ => rfl)
   (fun pre W => (∃ v, Boxed W (w.heap.size + 1) 34 v ∧ W.ownsRow w.heap.size 9 1 v (txs (kidT f i k pre)).length ((txs (kidT f i k pre)).map Value.string) ∧ (kidT f i k pre = [] → v = .slice none 0 0)) ∧ Boxed W w.heap.size 23 (.slice A f.length c) ∧ Boxed W (w.heap.size + 2) 124 (.slice A f.length c) ∧ Boxed W (w.heap.size + 2 + 1) 3 (.int .i64 (i : Int)) ∧ Below w.heap.size w W)
   (fun _ _ _ => False)
   (OwnFrom.and (Own.from (holdsRow_own w.heap.size (w.heap.size + 1) 34 9 1 (fun pre => (txs (kidT f i k pre)).length) (fun pre => (txs (kidT f i k pre)).map Value.string) (fun pre v => kidT f i k pre = [] → v = .slice none 0 0)) _)
    (OwnFrom.and (Own.from (boxed_own w.heap.size 23 (fun _ => .slice A f.length c)) _) (OwnFrom.and (Own.from (boxed_own (w.heap.size + 2) 124 (fun _ => .slice A f.length c)) _) (OwnFrom.and (Own.from (boxed_own (w.heap.size + 2 + 1) 3 (fun _ => .int .i64 (i : Int))) _) (ownFrom_below (Nat.le_refl _) (by omega))))))
   (fun _ _ _ _ _ hs _ _ => hs)
   ⟨⟨_, bP4, World.ownsRow_nil _ _ _ _, fun _ => rfl⟩, bF4, bM4, bT4, hB4⟩
   (fun x => { tmps := #[.slice A f.length c, .int .i64 (i : Int), .pointer (some ⟨w.heap.size, 0, none⟩), undef, .string ⟨#[]⟩, .pointer (some ⟨w.heap.size + 1, 0, none⟩), .int .i64 (x.1 : Int), .slice A f.length c, .int .i64 (i : Int), .bool true, .bool false, .slice A f.length c, .int .i64 (i : Int),
       .func (.func 243) #[] #[.pointer (some ⟨w.heap.size + 2, 0, none⟩), .pointer (some ⟨w.heap.size + 2 + 1, 0, none⟩)], .int .i64 (x.1 : Int), undef, undef, undef, undef, undef, undef, undef, undef, undef, undef, undef, undef, undef, undef, undef], defers := [] }) ?assign ?body ?done ?stop
  case assign =>
   intro l x W K hK
   dsimp only [encL]
   gi_wp2
   exact hK
  case body =>
   rintro l pre x W ⟨⟨v, hv, hrow, hnil⟩, bF, bM, bT, hB⟩ hlt
   have hx := x.2.1
   have hRW : Rd W W.heap.size A f.length c (ints f) := (h.below hB).more hB.size
   have hon : (tailI (ints f) (x.1 : Int) == 0) = onL f x.1 := by rw [tailI_ok hf hx]; unfold onL; rw [Bool.eq_iff_iff]; simp
   have KO := onLoop_c A f.length c (ints f) (x.1 : Int) _ hRW
   rw [hon] at KO
   have hcF := bF.cell
   have hBs := hB.size
   rcases ho : onL f x.1 with _ | _
   · rw [ho] at KO
     have hxl : f.length ≤ tl f x.1 + k := by
      have e : tl f x.1 = tl f i + 1 := tl_kid hf hi hx x.2.2 ho
      omega
     have hkl : (txs (kidT f i k pre)).length ≤ 100 := by rw [txs_len]; exact Nat.le_trans (kidT_len f i k pre) (Nat.le_of_lt hlt)
     have KT := fun (W' : World) (hr : Rd W' W'.heap.size A f.length c (ints f)) => IH x.1 (by omega) hx hxl A c W' hr
     have hE := kidT_snoc f i k pre x
     rw [ho, if_neg (by simp)] at hE
     have HE := Lib.hid hE
     have HN := Lib.hid hnil
     clear IH hnil hE
     gi_wp2_with ((refine ⟨trivial, ?_⟩; gi_at_call 236; refine (CallsIn.inRound l (callsIn_wide.2 KO)).mono ?_; rintro e w6 ⟨rfl, hb6⟩; have hv6 : Boxed w6 _ _ v := (hb6.block _ hv.lt).trans hv; have bF6 : Boxed w6 _ _ _ := (hb6.block _ bF.lt).trans bF; have hc6 := hv6.cell; have hcF6 := bF6.cell; have hr6 := hRW.up hb6; have hz6 := hb6.size; have hrow6 : w6.ownsRow _ _ 1 v _ _ := OwnS.up (show OwnS W _ v (txs (kidT f i k pre)) from hrow) hb6))
     refine wpIn_region_any (by kernel_rfl) ?_
     change wpAnyIn _ _ _ _ _ _ 7 (Array.replicate 7 false) _ (World.drew _)
     refine wpAnyIn_ready (rs := [0, 1, 2]) (by kernel_rfl) (List.cons_ne_nil _ _) ?_
     refine AllReadyIn.cons rfl (fun K hK => ?_) ?_
     · refine step_in rfl ?_
       go_simp
       refine hK _ _ ?_
       clear hK K
       refine wpAnyIn_ready (rs := [1, 2]) (by kernel_rfl) (List.cons_ne_nil _ _) ?_
       refine AllReadyIn.cons rfl (fun K hK => ?_) ?_
       · refine step_in rfl ?_
         go_simp
         refine hK _ _ ?_
         clear hK K
         refine wpAnyIn_ready (rs := [2]) (by kernel_rfl) (List.cons_ne_nil _ _) ?_
         refine AllReadyIn.cons rfl (fun K hK => ?_) AllReadyIn.nil
         refine step_in rfl ?_
         go_simp
         refine hK _ _ ?_
         clear hK K
         refine wpAnyIn_ready (rs := [3]) (by kernel_rfl) (List.cons_ne_nil _ _) ?_
         refine AllReadyIn.cons rfl (fun K hK => ?_) AllReadyIn.nil
         refine step_in rfl ?_
         go_simp
         gi_wp2_with (refine ⟨trivial, ?_⟩; gi_at_call 210; refine (CallsIn.inRound l (callsIn_wide.2 (KT _ (show Rd w6.drew w6.drew.heap.size A f.length c (ints f) from hr6)))).mono ?_; rintro e w7 ⟨rfl, hb7⟩; have hv7 : Boxed w7 _ _ v := (hb7.block _ (show _ < w6.drew.heap.size from hv6.lt)).trans hv6; have hc7 := hv7.cell; have hc7a := (hv7.alloc (.cells #[.string ⟨(treeT f k x.1).toArray⟩] 9)).cell; have hz7 := hb7.size; have hrow7 : w7.ownsRow _ _ 1 v _ _ := OwnS.up (show OwnS w6.drew _ v (txs (kidT f i k pre)) from hrow6) hb7; have hs7 : w.heap.size ≤ w7.heap.size := (by have h9 : w6.heap.size ≤ w7.heap.size := hz7; omega); obtain ⟨v', w8, hrun8, hown', hgrow, -⟩ := run_append_own (P := Tryz.prog) (w7.alloc (.cells #[.string ⟨(treeT f k x.1).toArray⟩] 9)) w.heap.size 34 34 9 i0 (.string ⟨#[]⟩) 1 16 Tryz.underlying34 hI hz0 hz1 hz2 rfl (by decide) v _ _ (hrow7.alloc _) ⟨w7.heap.size, 0, none⟩ 1 1 [.string ⟨(treeT f k x.1).toArray⟩] rfl (cell_one_new _ _ _) (by simp [Value.oneCell']) (by unfold maxLen; omega) (by omega) (by simp; omega); obtain ⟨g', cap', rfl⟩ := ownsRow_succ hown'; obtain ⟨hv8, hv9, hr9, hk9, hb9⟩ := hv7.appended (by decide) hrow7 hs7 (by omega) hown' hgrow; have hc8 := hv8.cell; have hf8 := hv8.frozen; have hBW : Below w.heap.size W w7 := (hb6.mono hBs).drew.trans (hb7.mono (show w.heap.size ≤ w6.heap.size by omega)); have bM7 : Boxed w7 _ _ _ := (hb7.block _ (show _ < w6.drew.heap.size from Nat.lt_of_lt_of_le bM.lt hz6)).trans ((hb6.block _ bM.lt).trans bM); have bT7 : Boxed w7 _ _ _ := (hb7.block _ (show _ < w6.drew.heap.size from Nat.lt_of_lt_of_le bT.lt hz6)).trans ((hb6.block _ bT.lt).trans bT); have bF7 : Boxed w7 _ _ _ := (hb7.block _ (show _ < w6.drew.heap.size from Nat.lt_of_lt_of_le bF.lt hz6)).trans bF6; have bM9 := Boxed.thru bM7 (by decide) hrow7 hgrow (show w.heap.size + 2 ≠ w.heap.size + 1 by omega) (.slice (some ⟨g', 0, none⟩) ((txs (kidT f i k pre)).length + 1) cap'); have bT9 := Boxed.thru bT7 (by decide) hrow7 hgrow (show w.heap.size + 2 + 1 ≠ w.heap.size + 1 by omega) (.slice (some ⟨g', 0, none⟩) ((txs (kidT f i k pre)).length + 1) cap'); have bF9 := Boxed.thru bF7 (by decide) hrow7 hgrow (show w.heap.size ≠ w.heap.size + 1 by omega) (.slice (some ⟨g', 0, none⟩) ((txs (kidT f i k pre)).length + 1) cap'); have hKF := ((KeepsOthers.of_below hb6).trans ((show KeepsOthers w6 w6.drew from ⟨Nat.le_refl _, fun _ _ h _ => h⟩).trans ((KeepsOthers.of_below hb7).trans hk9))).from w4.heap.size; have hKB : KpB w.heap.size (w.heap.size + 2) (w.heap.size + 2 + 1) W _ := ⟨hBW.trans hb9, bM9.trans bM.symm, bT9.trans bT.symm⟩; have HEND := Lib.hid (And.intro hKF (And.intro hKB (And.intro (kid_row HE.out hv9 hr9) (And.intro bF9 (And.intro bM9 (And.intro bT9 (hB.trans (hBW.trans hb9)))))))); clear hKF hKB bM9 bT9 bF9 bM7 bT7 bF7 hBW)
         refine wpAnyIn_ready (rs := [4]) (by kernel_rfl) (List.cons_ne_nil _ _) ?_
         refine AllReadyIn.cons rfl (fun K hK => ?_) AllReadyIn.nil
         refine step_in rfl ?_
         go_simp
         refine hK _ _ ?_
         clear hK K
         refine wpAnyIn_ready (rs := [5]) (by kernel_rfl) (List.cons_ne_nil _ _) ?_
         refine AllReadyIn.cons rfl (fun K hK => ?_) AllReadyIn.nil
         refine step_appIn rfl (.tmp 19) (.tmp 23) rfl hrun8 rfl rfl (hK _ _ ?_)
         clear hK K
         refine wpAnyIn_ready (rs := [6]) (by kernel_rfl) (List.cons_ne_nil _ _) ?_
         refine AllReadyIn.cons rfl (fun K hK => ?_) AllReadyIn.nil
         refine step_in rfl ?_
         go_simp
         refine hK _ _ ?_
         clear hK K
         refine wpAnyIn_done (by kernel_rfl) ?_ _
         gi_wp2
         exact HEND.out
       refine AllReadyIn.cons rfl (fun K hK => ?_) AllReadyIn.nil
       · refine step_in rfl ?_
         go_simp
         refine hK _ _ ?_
         clear hK K
         refine wpAnyIn_ready (rs := [1]) (by kernel_rfl) (List.cons_ne_nil _ _) ?_
         refine AllReadyIn.cons rfl (fun K hK => ?_) AllReadyIn.nil
         refine step_in rfl ?_
         go_simp
         refine hK _ _ ?_
         clear hK K
         refine wpAnyIn_ready (rs := [3]) (by kernel_rfl) (List.cons_ne_nil _ _) ?_
         refine AllReadyIn.cons rfl (fun K hK => ?_) AllReadyIn.nil
         refine step_in rfl ?_
         go_simp
         gi_wp2_with (refine ⟨trivial, ?_⟩; gi_at_call 210; refine (CallsIn.inRound l (callsIn_wide.2 (KT _ (show Rd w6.drew w6.drew.heap.size A f.length c (ints f) from hr6)))).mono ?_; rintro e w7 ⟨rfl, hb7⟩; have hv7 : Boxed w7 _ _ v := (hb7.block _ (show _ < w6.drew.heap.size from hv6.lt)).trans hv6; have hc7 := hv7.cell; have hc7a := (hv7.alloc (.cells #[.string ⟨(treeT f k x.1).toArray⟩] 9)).cell; have hz7 := hb7.size; have hrow7 : w7.ownsRow _ _ 1 v _ _ := OwnS.up (show OwnS w6.drew _ v (txs (kidT f i k pre)) from hrow6) hb7; have hs7 : w.heap.size ≤ w7.heap.size := (by have h9 : w6.heap.size ≤ w7.heap.size := hz7; omega); obtain ⟨v', w8, hrun8, hown', hgrow, -⟩ := run_append_own (P := Tryz.prog) (w7.alloc (.cells #[.string ⟨(treeT f k x.1).toArray⟩] 9)) w.heap.size 34 34 9 i0 (.string ⟨#[]⟩) 1 16 Tryz.underlying34 hI hz0 hz1 hz2 rfl (by decide) v _ _ (hrow7.alloc _) ⟨w7.heap.size, 0, none⟩ 1 1 [.string ⟨(treeT f k x.1).toArray⟩] rfl (cell_one_new _ _ _) (by simp [Value.oneCell']) (by unfold maxLen; omega) (by omega) (by simp; omega); obtain ⟨g', cap', rfl⟩ := ownsRow_succ hown'; obtain ⟨hv8, hv9, hr9, hk9, hb9⟩ := hv7.appended (by decide) hrow7 hs7 (by omega) hown' hgrow; have hc8 := hv8.cell; have hf8 := hv8.frozen; have hBW : Below w.heap.size W w7 := (hb6.mono hBs).drew.trans (hb7.mono (show w.heap.size ≤ w6.heap.size by omega)); have bM7 : Boxed w7 _ _ _ := (hb7.block _ (show _ < w6.drew.heap.size from Nat.lt_of_lt_of_le bM.lt hz6)).trans ((hb6.block _ bM.lt).trans bM); have bT7 : Boxed w7 _ _ _ := (hb7.block _ (show _ < w6.drew.heap.size from Nat.lt_of_lt_of_le bT.lt hz6)).trans ((hb6.block _ bT.lt).trans bT); have bF7 : Boxed w7 _ _ _ := (hb7.block _ (show _ < w6.drew.heap.size from Nat.lt_of_lt_of_le bF.lt hz6)).trans bF6; have bM9 := Boxed.thru bM7 (by decide) hrow7 hgrow (show w.heap.size + 2 ≠ w.heap.size + 1 by omega) (.slice (some ⟨g', 0, none⟩) ((txs (kidT f i k pre)).length + 1) cap'); have bT9 := Boxed.thru bT7 (by decide) hrow7 hgrow (show w.heap.size + 2 + 1 ≠ w.heap.size + 1 by omega) (.slice (some ⟨g', 0, none⟩) ((txs (kidT f i k pre)).length + 1) cap'); have bF9 := Boxed.thru bF7 (by decide) hrow7 hgrow (show w.heap.size ≠ w.heap.size + 1 by omega) (.slice (some ⟨g', 0, none⟩) ((txs (kidT f i k pre)).length + 1) cap'); have hKF := ((KeepsOthers.of_below hb6).trans ((show KeepsOthers w6 w6.drew from ⟨Nat.le_refl _, fun _ _ h _ => h⟩).trans ((KeepsOthers.of_below hb7).trans hk9))).from w4.heap.size; have hKB : KpB w.heap.size (w.heap.size + 2) (w.heap.size + 2 + 1) W _ := ⟨hBW.trans hb9, bM9.trans bM.symm, bT9.trans bT.symm⟩; have HEND := Lib.hid (And.intro hKF (And.intro hKB (And.intro (kid_row HE.out hv9 hr9) (And.intro bF9 (And.intro bM9 (And.intro bT9 (hB.trans (hBW.trans hb9)))))))); clear hKF hKB bM9 bT9 bF9 bM7 bT7 bF7 hBW)
         refine wpAnyIn_ready (rs := [4]) (by kernel_rfl) (List.cons_ne_nil _ _) ?_
         refine AllReadyIn.cons rfl (fun K hK => ?_) AllReadyIn.nil
         refine step_in rfl ?_
         go_simp
         refine hK _ _ ?_
         clear hK K
         refine wpAnyIn_ready (rs := [5]) (by kernel_rfl) (List.cons_ne_nil _ _) ?_
         refine AllReadyIn.cons rfl (fun K hK => ?_) AllReadyIn.nil
         refine step_appIn rfl (.tmp 19) (.tmp 23) rfl hrun8 rfl rfl (hK _ _ ?_)
         clear hK K
         refine wpAnyIn_ready (rs := [6]) (by kernel_rfl) (List.cons_ne_nil _ _) ?_
         refine AllReadyIn.cons rfl (fun K hK => ?_) AllReadyIn.nil
         refine step_in rfl ?_
         go_simp
         refine hK _ _ ?_
         clear hK K
         refine wpAnyIn_done (by kernel_rfl) ?_ _
         gi_wp2
         exact HEND.out
     refine AllReadyIn.cons rfl (fun K hK => ?_) ?_
     · refine step_in rfl ?_
       go_simp
       refine hK _ _ ?_
       clear hK K
       refine wpAnyIn_ready (rs := [0, 2]) (by kernel_rfl) (List.cons_ne_nil _ _) ?_
       refine AllReadyIn.cons rfl (fun K hK => ?_) ?_
       · refine step_in rfl ?_
         go_simp
         refine hK _ _ ?_
         clear hK K
         refine wpAnyIn_ready (rs := [2]) (by kernel_rfl) (List.cons_ne_nil _ _) ?_
         refine AllReadyIn.cons rfl (fun K hK => ?_) AllReadyIn.nil
         refine step_in rfl ?_
         go_simp
         refine hK _ _ ?_
         clear hK K
         refine wpAnyIn_ready (rs := [3]) (by kernel_rfl) (List.cons_ne_nil _ _) ?_
         refine AllReadyIn.cons rfl (fun K hK => ?_) AllReadyIn.nil
         refine step_in rfl ?_
         go_simp
         gi_wp2_with (refine ⟨trivial, ?_⟩; gi_at_call 210; refine (CallsIn.inRound l (callsIn_wide.2 (KT _ (show Rd w6.drew w6.drew.heap.size A f.length c (ints f) from hr6)))).mono ?_; rintro e w7 ⟨rfl, hb7⟩; have hv7 : Boxed w7 _ _ v := (hb7.block _ (show _ < w6.drew.heap.size from hv6.lt)).trans hv6; have hc7 := hv7.cell; have hc7a := (hv7.alloc (.cells #[.string ⟨(treeT f k x.1).toArray⟩] 9)).cell; have hz7 := hb7.size; have hrow7 : w7.ownsRow _ _ 1 v _ _ := OwnS.up (show OwnS w6.drew _ v (txs (kidT f i k pre)) from hrow6) hb7; have hs7 : w.heap.size ≤ w7.heap.size := (by have h9 : w6.heap.size ≤ w7.heap.size := hz7; omega); obtain ⟨v', w8, hrun8, hown', hgrow, -⟩ := run_append_own (P := Tryz.prog) (w7.alloc (.cells #[.string ⟨(treeT f k x.1).toArray⟩] 9)) w.heap.size 34 34 9 i0 (.string ⟨#[]⟩) 1 16 Tryz.underlying34 hI hz0 hz1 hz2 rfl (by decide) v _ _ (hrow7.alloc _) ⟨w7.heap.size, 0, none⟩ 1 1 [.string ⟨(treeT f k x.1).toArray⟩] rfl (cell_one_new _ _ _) (by simp [Value.oneCell']) (by unfold maxLen; omega) (by omega) (by simp; omega); obtain ⟨g', cap', rfl⟩ := ownsRow_succ hown'; obtain ⟨hv8, hv9, hr9, hk9, hb9⟩ := hv7.appended (by decide) hrow7 hs7 (by omega) hown' hgrow; have hc8 := hv8.cell; have hf8 := hv8.frozen; have hBW : Below w.heap.size W w7 := (hb6.mono hBs).drew.trans (hb7.mono (show w.heap.size ≤ w6.heap.size by omega)); have bM7 : Boxed w7 _ _ _ := (hb7.block _ (show _ < w6.drew.heap.size from Nat.lt_of_lt_of_le bM.lt hz6)).trans ((hb6.block _ bM.lt).trans bM); have bT7 : Boxed w7 _ _ _ := (hb7.block _ (show _ < w6.drew.heap.size from Nat.lt_of_lt_of_le bT.lt hz6)).trans ((hb6.block _ bT.lt).trans bT); have bF7 : Boxed w7 _ _ _ := (hb7.block _ (show _ < w6.drew.heap.size from Nat.lt_of_lt_of_le bF.lt hz6)).trans bF6; have bM9 := Boxed.thru bM7 (by decide) hrow7 hgrow (show w.heap.size + 2 ≠ w.heap.size + 1 by omega) (.slice (some ⟨g', 0, none⟩) ((txs (kidT f i k pre)).length + 1) cap'); have bT9 := Boxed.thru bT7 (by decide) hrow7 hgrow (show w.heap.size + 2 + 1 ≠ w.heap.size + 1 by omega) (.slice (some ⟨g', 0, none⟩) ((txs (kidT f i k pre)).length + 1) cap'); have bF9 := Boxed.thru bF7 (by decide) hrow7 hgrow (show w.heap.size ≠ w.heap.size + 1 by omega) (.slice (some ⟨g', 0, none⟩) ((txs (kidT f i k pre)).length + 1) cap'); have hKF := ((KeepsOthers.of_below hb6).trans ((show KeepsOthers w6 w6.drew from ⟨Nat.le_refl _, fun _ _ h _ => h⟩).trans ((KeepsOthers.of_below hb7).trans hk9))).from w4.heap.size; have hKB : KpB w.heap.size (w.heap.size + 2) (w.heap.size + 2 + 1) W _ := ⟨hBW.trans hb9, bM9.trans bM.symm, bT9.trans bT.symm⟩; have HEND := Lib.hid (And.intro hKF (And.intro hKB (And.intro (kid_row HE.out hv9 hr9) (And.intro bF9 (And.intro bM9 (And.intro bT9 (hB.trans (hBW.trans hb9)))))))); clear hKF hKB bM9 bT9 bF9 bM7 bT7 bF7 hBW)
         refine wpAnyIn_ready (rs := [4]) (by kernel_rfl) (List.cons_ne_nil _ _) ?_
         refine AllReadyIn.cons rfl (fun K hK => ?_) AllReadyIn.nil
         refine step_in rfl ?_
         go_simp
         refine hK _ _ ?_
         clear hK K
         refine wpAnyIn_ready (rs := [5]) (by kernel_rfl) (List.cons_ne_nil _ _) ?_
         refine AllReadyIn.cons rfl (fun K hK => ?_) AllReadyIn.nil
         refine step_appIn rfl (.tmp 19) (.tmp 23) rfl hrun8 rfl rfl (hK _ _ ?_)
         clear hK K
         refine wpAnyIn_ready (rs := [6]) (by kernel_rfl) (List.cons_ne_nil _ _) ?_
         refine AllReadyIn.cons rfl (fun K hK => ?_) AllReadyIn.nil
         refine step_in rfl ?_
         go_simp
         refine hK _ _ ?_
         clear hK K
         refine wpAnyIn_done (by kernel_rfl) ?_ _
         gi_wp2
         exact HEND.out
       refine AllReadyIn.cons rfl (fun K hK => ?_) AllReadyIn.nil
       · refine step_in rfl ?_
         go_simp
         refine hK _ _ ?_
         clear hK K
         refine wpAnyIn_ready (rs := [0, 3]) (by kernel_rfl) (List.cons_ne_nil _ _) ?_
         refine AllReadyIn.cons rfl (fun K hK => ?_) ?_
         · refine step_in rfl ?_
           go_simp
           refine hK _ _ ?_
           clear hK K
           refine wpAnyIn_ready (rs := [3]) (by kernel_rfl) (List.cons_ne_nil _ _) ?_
           refine AllReadyIn.cons rfl (fun K hK => ?_) AllReadyIn.nil
           refine step_in rfl ?_
           go_simp
           gi_wp2_with (refine ⟨trivial, ?_⟩; gi_at_call 210; refine (CallsIn.inRound l (callsIn_wide.2 (KT _ (show Rd w6.drew w6.drew.heap.size A f.length c (ints f) from hr6)))).mono ?_; rintro e w7 ⟨rfl, hb7⟩; have hv7 : Boxed w7 _ _ v := (hb7.block _ (show _ < w6.drew.heap.size from hv6.lt)).trans hv6; have hc7 := hv7.cell; have hc7a := (hv7.alloc (.cells #[.string ⟨(treeT f k x.1).toArray⟩] 9)).cell; have hz7 := hb7.size; have hrow7 : w7.ownsRow _ _ 1 v _ _ := OwnS.up (show OwnS w6.drew _ v (txs (kidT f i k pre)) from hrow6) hb7; have hs7 : w.heap.size ≤ w7.heap.size := (by have h9 : w6.heap.size ≤ w7.heap.size := hz7; omega); obtain ⟨v', w8, hrun8, hown', hgrow, -⟩ := run_append_own (P := Tryz.prog) (w7.alloc (.cells #[.string ⟨(treeT f k x.1).toArray⟩] 9)) w.heap.size 34 34 9 i0 (.string ⟨#[]⟩) 1 16 Tryz.underlying34 hI hz0 hz1 hz2 rfl (by decide) v _ _ (hrow7.alloc _) ⟨w7.heap.size, 0, none⟩ 1 1 [.string ⟨(treeT f k x.1).toArray⟩] rfl (cell_one_new _ _ _) (by simp [Value.oneCell']) (by unfold maxLen; omega) (by omega) (by simp; omega); obtain ⟨g', cap', rfl⟩ := ownsRow_succ hown'; obtain ⟨hv8, hv9, hr9, hk9, hb9⟩ := hv7.appended (by decide) hrow7 hs7 (by omega) hown' hgrow; have hc8 := hv8.cell; have hf8 := hv8.frozen; have hBW : Below w.heap.size W w7 := (hb6.mono hBs).drew.trans (hb7.mono (show w.heap.size ≤ w6.heap.size by omega)); have bM7 : Boxed w7 _ _ _ := (hb7.block _ (show _ < w6.drew.heap.size from Nat.lt_of_lt_of_le bM.lt hz6)).trans ((hb6.block _ bM.lt).trans bM); have bT7 : Boxed w7 _ _ _ := (hb7.block _ (show _ < w6.drew.heap.size from Nat.lt_of_lt_of_le bT.lt hz6)).trans ((hb6.block _ bT.lt).trans bT); have bF7 : Boxed w7 _ _ _ := (hb7.block _ (show _ < w6.drew.heap.size from Nat.lt_of_lt_of_le bF.lt hz6)).trans bF6; have bM9 := Boxed.thru bM7 (by decide) hrow7 hgrow (show w.heap.size + 2 ≠ w.heap.size + 1 by omega) (.slice (some ⟨g', 0, none⟩) ((txs (kidT f i k pre)).length + 1) cap'); have bT9 := Boxed.thru bT7 (by decide) hrow7 hgrow (show w.heap.size + 2 + 1 ≠ w.heap.size + 1 by omega) (.slice (some ⟨g', 0, none⟩) ((txs (kidT f i k pre)).length + 1) cap'); have bF9 := Boxed.thru bF7 (by decide) hrow7 hgrow (show w.heap.size ≠ w.heap.size + 1 by omega) (.slice (some ⟨g', 0, none⟩) ((txs (kidT f i k pre)).length + 1) cap'); have hKF := ((KeepsOthers.of_below hb6).trans ((show KeepsOthers w6 w6.drew from ⟨Nat.le_refl _, fun _ _ h _ => h⟩).trans ((KeepsOthers.of_below hb7).trans hk9))).from w4.heap.size; have hKB : KpB w.heap.size (w.heap.size + 2) (w.heap.size + 2 + 1) W _ := ⟨hBW.trans hb9, bM9.trans bM.symm, bT9.trans bT.symm⟩; have HEND := Lib.hid (And.intro hKF (And.intro hKB (And.intro (kid_row HE.out hv9 hr9) (And.intro bF9 (And.intro bM9 (And.intro bT9 (hB.trans (hBW.trans hb9)))))))); clear hKF hKB bM9 bT9 bF9 bM7 bT7 bF7 hBW)
           refine wpAnyIn_ready (rs := [4]) (by kernel_rfl) (List.cons_ne_nil _ _) ?_
           refine AllReadyIn.cons rfl (fun K hK => ?_) AllReadyIn.nil
           refine step_in rfl ?_
           go_simp
           refine hK _ _ ?_
           clear hK K
           refine wpAnyIn_ready (rs := [5]) (by kernel_rfl) (List.cons_ne_nil _ _) ?_
           refine AllReadyIn.cons rfl (fun K hK => ?_) AllReadyIn.nil
           refine step_appIn rfl (.tmp 19) (.tmp 23) rfl hrun8 rfl rfl (hK _ _ ?_)
           clear hK K
           refine wpAnyIn_ready (rs := [6]) (by kernel_rfl) (List.cons_ne_nil _ _) ?_
           refine AllReadyIn.cons rfl (fun K hK => ?_) AllReadyIn.nil
           refine step_in rfl ?_
           go_simp
           refine hK _ _ ?_
           clear hK K
           refine wpAnyIn_done (by kernel_rfl) ?_ _
           gi_wp2
           exact HEND.out
         refine AllReadyIn.cons rfl (fun K hK => ?_) AllReadyIn.nil
         · refine step_in rfl ?_
           go_simp
           gi_wp2_with (refine ⟨trivial, ?_⟩; gi_at_call 210; refine (CallsIn.inRound l (callsIn_wide.2 (KT _ (show Rd w6.drew w6.drew.heap.size A f.length c (ints f) from hr6)))).mono ?_; rintro e w7 ⟨rfl, hb7⟩; have hv7 : Boxed w7 _ _ v := (hb7.block _ (show _ < w6.drew.heap.size from hv6.lt)).trans hv6; have hc7 := hv7.cell; have hc7a := (hv7.alloc (.cells #[.string ⟨(treeT f k x.1).toArray⟩] 9)).cell; have hz7 := hb7.size; have hrow7 : w7.ownsRow _ _ 1 v _ _ := OwnS.up (show OwnS w6.drew _ v (txs (kidT f i k pre)) from hrow6) hb7; have hs7 : w.heap.size ≤ w7.heap.size := (by have h9 : w6.heap.size ≤ w7.heap.size := hz7; omega); obtain ⟨v', w8, hrun8, hown', hgrow, -⟩ := run_append_own (P := Tryz.prog) (w7.alloc (.cells #[.string ⟨(treeT f k x.1).toArray⟩] 9)) w.heap.size 34 34 9 i0 (.string ⟨#[]⟩) 1 16 Tryz.underlying34 hI hz0 hz1 hz2 rfl (by decide) v _ _ (hrow7.alloc _) ⟨w7.heap.size, 0, none⟩ 1 1 [.string ⟨(treeT f k x.1).toArray⟩] rfl (cell_one_new _ _ _) (by simp [Value.oneCell']) (by unfold maxLen; omega) (by omega) (by simp; omega); obtain ⟨g', cap', rfl⟩ := ownsRow_succ hown'; obtain ⟨hv8, hv9, hr9, hk9, hb9⟩ := hv7.appended (by decide) hrow7 hs7 (by omega) hown' hgrow; have hc8 := hv8.cell; have hf8 := hv8.frozen; have hBW : Below w.heap.size W w7 := (hb6.mono hBs).drew.trans (hb7.mono (show w.heap.size ≤ w6.heap.size by omega)); have bM7 : Boxed w7 _ _ _ := (hb7.block _ (show _ < w6.drew.heap.size from Nat.lt_of_lt_of_le bM.lt hz6)).trans ((hb6.block _ bM.lt).trans bM); have bT7 : Boxed w7 _ _ _ := (hb7.block _ (show _ < w6.drew.heap.size from Nat.lt_of_lt_of_le bT.lt hz6)).trans ((hb6.block _ bT.lt).trans bT); have bF7 : Boxed w7 _ _ _ := (hb7.block _ (show _ < w6.drew.heap.size from Nat.lt_of_lt_of_le bF.lt hz6)).trans bF6; have bM9 := Boxed.thru bM7 (by decide) hrow7 hgrow (show w.heap.size + 2 ≠ w.heap.size + 1 by omega) (.slice (some ⟨g', 0, none⟩) ((txs (kidT f i k pre)).length + 1) cap'); have bT9 := Boxed.thru bT7 (by decide) hrow7 hgrow (show w.heap.size + 2 + 1 ≠ w.heap.size + 1 by omega) (.slice (some ⟨g', 0, none⟩) ((txs (kidT f i k pre)).length + 1) cap'); have bF9 := Boxed.thru bF7 (by decide) hrow7 hgrow (show w.heap.size ≠ w.heap.size + 1 by omega) (.slice (some ⟨g', 0, none⟩) ((txs (kidT f i k pre)).length + 1) cap'); have hKF := ((KeepsOthers.of_below hb6).trans ((show KeepsOthers w6 w6.drew from ⟨Nat.le_refl _, fun _ _ h _ => h⟩).trans ((KeepsOthers.of_below hb7).trans hk9))).from w4.heap.size; have hKB : KpB w.heap.size (w.heap.size + 2) (w.heap.size + 2 + 1) W _ := ⟨hBW.trans hb9, bM9.trans bM.symm, bT9.trans bT.symm⟩; have HEND := Lib.hid (And.intro hKF (And.intro hKB (And.intro (kid_row HE.out hv9 hr9) (And.intro bF9 (And.intro bM9 (And.intro bT9 (hB.trans (hBW.trans hb9)))))))); clear hKF hKB bM9 bT9 bF9 bM7 bT7 bF7 hBW)
           refine wpAnyIn_ready (rs := [0, 4]) (by kernel_rfl) (List.cons_ne_nil _ _) ?_
           refine AllReadyIn.cons rfl (fun K hK => ?_) ?_
           · refine step_in rfl ?_
             go_simp
             refine hK _ _ ?_
             clear hK K
             refine wpAnyIn_ready (rs := [4]) (by kernel_rfl) (List.cons_ne_nil _ _) ?_
             refine AllReadyIn.cons rfl (fun K hK => ?_) AllReadyIn.nil
             refine step_in rfl ?_
             go_simp
             refine hK _ _ ?_
             clear hK K
             refine wpAnyIn_ready (rs := [5]) (by kernel_rfl) (List.cons_ne_nil _ _) ?_
             refine AllReadyIn.cons rfl (fun K hK => ?_) AllReadyIn.nil
             refine step_appIn rfl (.tmp 19) (.tmp 23) rfl hrun8 rfl rfl (hK _ _ ?_)
             clear hK K
             refine wpAnyIn_ready (rs := [6]) (by kernel_rfl) (List.cons_ne_nil _ _) ?_
             refine AllReadyIn.cons rfl (fun K hK => ?_) AllReadyIn.nil
             refine step_in rfl ?_
             go_simp
             refine hK _ _ ?_
             clear hK K
             refine wpAnyIn_done (by kernel_rfl) ?_ _
             gi_wp2
             exact HEND.out
           refine AllReadyIn.cons rfl (fun K hK => ?_) AllReadyIn.nil
           · refine step_in rfl ?_
             go_simp
             refine hK _ _ ?_
             clear hK K
             refine wpAnyIn_ready (rs := [0]) (by kernel_rfl) (List.cons_ne_nil _ _) ?_
             refine AllReadyIn.cons rfl (fun K hK => ?_) AllReadyIn.nil
             refine step_in rfl ?_
             go_simp
             refine hK _ _ ?_
             clear hK K
             refine wpAnyIn_ready (rs := [5]) (by kernel_rfl) (List.cons_ne_nil _ _) ?_
             refine AllReadyIn.cons rfl (fun K hK => ?_) AllReadyIn.nil
             refine step_appIn rfl (.tmp 19) (.tmp 23) rfl hrun8 rfl rfl (hK _ _ ?_)
             clear hK K
             refine wpAnyIn_ready (rs := [6]) (by kernel_rfl) (List.cons_ne_nil _ _) ?_
             refine AllReadyIn.cons rfl (fun K hK => ?_) AllReadyIn.nil
             refine step_in rfl ?_
             go_simp
             refine hK _ _ ?_
             clear hK K
             refine wpAnyIn_done (by kernel_rfl) ?_ _
             gi_wp2
             exact HEND.out
     refine AllReadyIn.cons rfl (fun K hK => ?_) AllReadyIn.nil
     · refine step_in rfl ?_
       go_simp
       refine hK _ _ ?_
       clear hK K
       refine wpAnyIn_ready (rs := [0, 1]) (by kernel_rfl) (List.cons_ne_nil _ _) ?_
       refine AllReadyIn.cons rfl (fun K hK => ?_) ?_
       · refine step_in rfl ?_
         go_simp
         refine hK _ _ ?_
         clear hK K
         refine wpAnyIn_ready (rs := [1]) (by kernel_rfl) (List.cons_ne_nil _ _) ?_
         refine AllReadyIn.cons rfl (fun K hK => ?_) AllReadyIn.nil
         refine step_in rfl ?_
         go_simp
         refine hK _ _ ?_
         clear hK K
         refine wpAnyIn_ready (rs := [3]) (by kernel_rfl) (List.cons_ne_nil _ _) ?_
         refine AllReadyIn.cons rfl (fun K hK => ?_) AllReadyIn.nil
         refine step_in rfl ?_
         go_simp
         gi_wp2_with (refine ⟨trivial, ?_⟩; gi_at_call 210; refine (CallsIn.inRound l (callsIn_wide.2 (KT _ (show Rd w6.drew w6.drew.heap.size A f.length c (ints f) from hr6)))).mono ?_; rintro e w7 ⟨rfl, hb7⟩; have hv7 : Boxed w7 _ _ v := (hb7.block _ (show _ < w6.drew.heap.size from hv6.lt)).trans hv6; have hc7 := hv7.cell; have hc7a := (hv7.alloc (.cells #[.string ⟨(treeT f k x.1).toArray⟩] 9)).cell; have hz7 := hb7.size; have hrow7 : w7.ownsRow _ _ 1 v _ _ := OwnS.up (show OwnS w6.drew _ v (txs (kidT f i k pre)) from hrow6) hb7; have hs7 : w.heap.size ≤ w7.heap.size := (by have h9 : w6.heap.size ≤ w7.heap.size := hz7; omega); obtain ⟨v', w8, hrun8, hown', hgrow, -⟩ := run_append_own (P := Tryz.prog) (w7.alloc (.cells #[.string ⟨(treeT f k x.1).toArray⟩] 9)) w.heap.size 34 34 9 i0 (.string ⟨#[]⟩) 1 16 Tryz.underlying34 hI hz0 hz1 hz2 rfl (by decide) v _ _ (hrow7.alloc _) ⟨w7.heap.size, 0, none⟩ 1 1 [.string ⟨(treeT f k x.1).toArray⟩] rfl (cell_one_new _ _ _) (by simp [Value.oneCell']) (by unfold maxLen; omega) (by omega) (by simp; omega); obtain ⟨g', cap', rfl⟩ := ownsRow_succ hown'; obtain ⟨hv8, hv9, hr9, hk9, hb9⟩ := hv7.appended (by decide) hrow7 hs7 (by omega) hown' hgrow; have hc8 := hv8.cell; have hf8 := hv8.frozen; have hBW : Below w.heap.size W w7 := (hb6.mono hBs).drew.trans (hb7.mono (show w.heap.size ≤ w6.heap.size by omega)); have bM7 : Boxed w7 _ _ _ := (hb7.block _ (show _ < w6.drew.heap.size from Nat.lt_of_lt_of_le bM.lt hz6)).trans ((hb6.block _ bM.lt).trans bM); have bT7 : Boxed w7 _ _ _ := (hb7.block _ (show _ < w6.drew.heap.size from Nat.lt_of_lt_of_le bT.lt hz6)).trans ((hb6.block _ bT.lt).trans bT); have bF7 : Boxed w7 _ _ _ := (hb7.block _ (show _ < w6.drew.heap.size from Nat.lt_of_lt_of_le bF.lt hz6)).trans bF6; have bM9 := Boxed.thru bM7 (by decide) hrow7 hgrow (show w.heap.size + 2 ≠ w.heap.size + 1 by omega) (.slice (some ⟨g', 0, none⟩) ((txs (kidT f i k pre)).length + 1) cap'); have bT9 := Boxed.thru bT7 (by decide) hrow7 hgrow (show w.heap.size + 2 + 1 ≠ w.heap.size + 1 by omega) (.slice (some ⟨g', 0, none⟩) ((txs (kidT f i k pre)).length + 1) cap'); have bF9 := Boxed.thru bF7 (by decide) hrow7 hgrow (show w.heap.size ≠ w.heap.size + 1 by omega) (.slice (some ⟨g', 0, none⟩) ((txs (kidT f i k pre)).length + 1) cap'); have hKF := ((KeepsOthers.of_below hb6).trans ((show KeepsOthers w6 w6.drew from ⟨Nat.le_refl _, fun _ _ h _ => h⟩).trans ((KeepsOthers.of_below hb7).trans hk9))).from w4.heap.size; have hKB : KpB w.heap.size (w.heap.size + 2) (w.heap.size + 2 + 1) W _ := ⟨hBW.trans hb9, bM9.trans bM.symm, bT9.trans bT.symm⟩; have HEND := Lib.hid (And.intro hKF (And.intro hKB (And.intro (kid_row HE.out hv9 hr9) (And.intro bF9 (And.intro bM9 (And.intro bT9 (hB.trans (hBW.trans hb9)))))))); clear hKF hKB bM9 bT9 bF9 bM7 bT7 bF7 hBW)
         refine wpAnyIn_ready (rs := [4]) (by kernel_rfl) (List.cons_ne_nil _ _) ?_
         refine AllReadyIn.cons rfl (fun K hK => ?_) AllReadyIn.nil
         refine step_in rfl ?_
         go_simp
         refine hK _ _ ?_
         clear hK K
         refine wpAnyIn_ready (rs := [5]) (by kernel_rfl) (List.cons_ne_nil _ _) ?_
         refine AllReadyIn.cons rfl (fun K hK => ?_) AllReadyIn.nil
         refine step_appIn rfl (.tmp 19) (.tmp 23) rfl hrun8 rfl rfl (hK _ _ ?_)
         clear hK K
         refine wpAnyIn_ready (rs := [6]) (by kernel_rfl) (List.cons_ne_nil _ _) ?_
         refine AllReadyIn.cons rfl (fun K hK => ?_) AllReadyIn.nil
         refine step_in rfl ?_
         go_simp
         refine hK _ _ ?_
         clear hK K
         refine wpAnyIn_done (by kernel_rfl) ?_ _
         gi_wp2
         exact HEND.out
       refine AllReadyIn.cons rfl (fun K hK => ?_) AllReadyIn.nil
       · refine step_in rfl ?_
         go_simp
         refine hK _ _ ?_
         clear hK K
         refine wpAnyIn_ready (rs := [0, 3]) (by kernel_rfl) (List.cons_ne_nil _ _) ?_
         refine AllReadyIn.cons rfl (fun K hK => ?_) ?_
         · refine step_in rfl ?_
           go_simp
           refine hK _ _ ?_
           clear hK K
           refine wpAnyIn_ready (rs := [3]) (by kernel_rfl) (List.cons_ne_nil _ _) ?_
           refine AllReadyIn.cons rfl (fun K hK => ?_) AllReadyIn.nil
           refine step_in rfl ?_
           go_simp
           gi_wp2_with (refine ⟨trivial, ?_⟩; gi_at_call 210; refine (CallsIn.inRound l (callsIn_wide.2 (KT _ (show Rd w6.drew w6.drew.heap.size A f.length c (ints f) from hr6)))).mono ?_; rintro e w7 ⟨rfl, hb7⟩; have hv7 : Boxed w7 _ _ v := (hb7.block _ (show _ < w6.drew.heap.size from hv6.lt)).trans hv6; have hc7 := hv7.cell; have hc7a := (hv7.alloc (.cells #[.string ⟨(treeT f k x.1).toArray⟩] 9)).cell; have hz7 := hb7.size; have hrow7 : w7.ownsRow _ _ 1 v _ _ := OwnS.up (show OwnS w6.drew _ v (txs (kidT f i k pre)) from hrow6) hb7; have hs7 : w.heap.size ≤ w7.heap.size := (by have h9 : w6.heap.size ≤ w7.heap.size := hz7; omega); obtain ⟨v', w8, hrun8, hown', hgrow, -⟩ := run_append_own (P := Tryz.prog) (w7.alloc (.cells #[.string ⟨(treeT f k x.1).toArray⟩] 9)) w.heap.size 34 34 9 i0 (.string ⟨#[]⟩) 1 16 Tryz.underlying34 hI hz0 hz1 hz2 rfl (by decide) v _ _ (hrow7.alloc _) ⟨w7.heap.size, 0, none⟩ 1 1 [.string ⟨(treeT f k x.1).toArray⟩] rfl (cell_one_new _ _ _) (by simp [Value.oneCell']) (by unfold maxLen; omega) (by omega) (by simp; omega); obtain ⟨g', cap', rfl⟩ := ownsRow_succ hown'; obtain ⟨hv8, hv9, hr9, hk9, hb9⟩ := hv7.appended (by decide) hrow7 hs7 (by omega) hown' hgrow; have hc8 := hv8.cell; have hf8 := hv8.frozen; have hBW : Below w.heap.size W w7 := (hb6.mono hBs).drew.trans (hb7.mono (show w.heap.size ≤ w6.heap.size by omega)); have bM7 : Boxed w7 _ _ _ := (hb7.block _ (show _ < w6.drew.heap.size from Nat.lt_of_lt_of_le bM.lt hz6)).trans ((hb6.block _ bM.lt).trans bM); have bT7 : Boxed w7 _ _ _ := (hb7.block _ (show _ < w6.drew.heap.size from Nat.lt_of_lt_of_le bT.lt hz6)).trans ((hb6.block _ bT.lt).trans bT); have bF7 : Boxed w7 _ _ _ := (hb7.block _ (show _ < w6.drew.heap.size from Nat.lt_of_lt_of_le bF.lt hz6)).trans bF6; have bM9 := Boxed.thru bM7 (by decide) hrow7 hgrow (show w.heap.size + 2 ≠ w.heap.size + 1 by omega) (.slice (some ⟨g', 0, none⟩) ((txs (kidT f i k pre)).length + 1) cap'); have bT9 := Boxed.thru bT7 (by decide) hrow7 hgrow (show w.heap.size + 2 + 1 ≠ w.heap.size + 1 by omega) (.slice (some ⟨g', 0, none⟩) ((txs (kidT f i k pre)).length + 1) cap'); have bF9 := Boxed.thru bF7 (by decide) hrow7 hgrow (show w.heap.size ≠ w.heap.size + 1 by omega) (.slice (some ⟨g', 0, none⟩) ((txs (kidT f i k pre)).length + 1) cap'); have hKF := ((KeepsOthers.of_below hb6).trans ((show KeepsOthers w6 w6.drew from ⟨Nat.le_refl _, fun _ _ h _ => h⟩).trans ((KeepsOthers.of_below hb7).trans hk9))).from w4.heap.size; have hKB : KpB w.heap.size (w.heap.size + 2) (w.heap.size + 2 + 1) W _ := ⟨hBW.trans hb9, bM9.trans bM.symm, bT9.trans bT.symm⟩; have HEND := Lib.hid (And.intro hKF (And.intro hKB (And.intro (kid_row HE.out hv9 hr9) (And.intro bF9 (And.intro bM9 (And.intro bT9 (hB.trans (hBW.trans hb9)))))))); clear hKF hKB bM9 bT9 bF9 bM7 bT7 bF7 hBW)
           refine wpAnyIn_ready (rs := [4]) (by kernel_rfl) (List.cons_ne_nil _ _) ?_
           refine AllReadyIn.cons rfl (fun K hK => ?_) AllReadyIn.nil
           refine step_in rfl ?_
           go_simp
           refine hK _ _ ?_
           clear hK K
           refine wpAnyIn_ready (rs := [5]) (by kernel_rfl) (List.cons_ne_nil _ _) ?_
           refine AllReadyIn.cons rfl (fun K hK => ?_) AllReadyIn.nil
           refine step_appIn rfl (.tmp 19) (.tmp 23) rfl hrun8 rfl rfl (hK _ _ ?_)
           clear hK K
           refine wpAnyIn_ready (rs := [6]) (by kernel_rfl) (List.cons_ne_nil _ _) ?_
           refine AllReadyIn.cons rfl (fun K hK => ?_) AllReadyIn.nil
           refine step_in rfl ?_
           go_simp
           refine hK _ _ ?_
           clear hK K
           refine wpAnyIn_done (by kernel_rfl) ?_ _
           gi_wp2
           exact HEND.out
         refine AllReadyIn.cons rfl (fun K hK => ?_) AllReadyIn.nil
         · refine step_in rfl ?_
           go_simp
           gi_wp2_with (refine ⟨trivial, ?_⟩; gi_at_call 210; refine (CallsIn.inRound l (callsIn_wide.2 (KT _ (show Rd w6.drew w6.drew.heap.size A f.length c (ints f) from hr6)))).mono ?_; rintro e w7 ⟨rfl, hb7⟩; have hv7 : Boxed w7 _ _ v := (hb7.block _ (show _ < w6.drew.heap.size from hv6.lt)).trans hv6; have hc7 := hv7.cell; have hc7a := (hv7.alloc (.cells #[.string ⟨(treeT f k x.1).toArray⟩] 9)).cell; have hz7 := hb7.size; have hrow7 : w7.ownsRow _ _ 1 v _ _ := OwnS.up (show OwnS w6.drew _ v (txs (kidT f i k pre)) from hrow6) hb7; have hs7 : w.heap.size ≤ w7.heap.size := (by have h9 : w6.heap.size ≤ w7.heap.size := hz7; omega); obtain ⟨v', w8, hrun8, hown', hgrow, -⟩ := run_append_own (P := Tryz.prog) (w7.alloc (.cells #[.string ⟨(treeT f k x.1).toArray⟩] 9)) w.heap.size 34 34 9 i0 (.string ⟨#[]⟩) 1 16 Tryz.underlying34 hI hz0 hz1 hz2 rfl (by decide) v _ _ (hrow7.alloc _) ⟨w7.heap.size, 0, none⟩ 1 1 [.string ⟨(treeT f k x.1).toArray⟩] rfl (cell_one_new _ _ _) (by simp [Value.oneCell']) (by unfold maxLen; omega) (by omega) (by simp; omega); obtain ⟨g', cap', rfl⟩ := ownsRow_succ hown'; obtain ⟨hv8, hv9, hr9, hk9, hb9⟩ := hv7.appended (by decide) hrow7 hs7 (by omega) hown' hgrow; have hc8 := hv8.cell; have hf8 := hv8.frozen; have hBW : Below w.heap.size W w7 := (hb6.mono hBs).drew.trans (hb7.mono (show w.heap.size ≤ w6.heap.size by omega)); have bM7 : Boxed w7 _ _ _ := (hb7.block _ (show _ < w6.drew.heap.size from Nat.lt_of_lt_of_le bM.lt hz6)).trans ((hb6.block _ bM.lt).trans bM); have bT7 : Boxed w7 _ _ _ := (hb7.block _ (show _ < w6.drew.heap.size from Nat.lt_of_lt_of_le bT.lt hz6)).trans ((hb6.block _ bT.lt).trans bT); have bF7 : Boxed w7 _ _ _ := (hb7.block _ (show _ < w6.drew.heap.size from Nat.lt_of_lt_of_le bF.lt hz6)).trans bF6; have bM9 := Boxed.thru bM7 (by decide) hrow7 hgrow (show w.heap.size + 2 ≠ w.heap.size + 1 by omega) (.slice (some ⟨g', 0, none⟩) ((txs (kidT f i k pre)).length + 1) cap'); have bT9 := Boxed.thru bT7 (by decide) hrow7 hgrow (show w.heap.size + 2 + 1 ≠ w.heap.size + 1 by omega) (.slice (some ⟨g', 0, none⟩) ((txs (kidT f i k pre)).length + 1) cap'); have bF9 := Boxed.thru bF7 (by decide) hrow7 hgrow (show w.heap.size ≠ w.heap.size + 1 by omega) (.slice (some ⟨g', 0, none⟩) ((txs (kidT f i k pre)).length + 1) cap'); have hKF := ((KeepsOthers.of_below hb6).trans ((show KeepsOthers w6 w6.drew from ⟨Nat.le_refl _, fun _ _ h _ => h⟩).trans ((KeepsOthers.of_below hb7).trans hk9))).from w4.heap.size; have hKB : KpB w.heap.size (w.heap.size + 2) (w.heap.size + 2 + 1) W _ := ⟨hBW.trans hb9, bM9.trans bM.symm, bT9.trans bT.symm⟩; have HEND := Lib.hid (And.intro hKF (And.intro hKB (And.intro (kid_row HE.out hv9 hr9) (And.intro bF9 (And.intro bM9 (And.intro bT9 (hB.trans (hBW.trans hb9)))))))); clear hKF hKB bM9 bT9 bF9 bM7 bT7 bF7 hBW)
           refine wpAnyIn_ready (rs := [0, 4]) (by kernel_rfl) (List.cons_ne_nil _ _) ?_
           refine AllReadyIn.cons rfl (fun K hK => ?_) ?_
           · refine step_in rfl ?_
             go_simp
             refine hK _ _ ?_
             clear hK K
             refine wpAnyIn_ready (rs := [4]) (by kernel_rfl) (List.cons_ne_nil _ _) ?_
             refine AllReadyIn.cons rfl (fun K hK => ?_) AllReadyIn.nil
             refine step_in rfl ?_
             go_simp
             refine hK _ _ ?_
             clear hK K
             refine wpAnyIn_ready (rs := [5]) (by kernel_rfl) (List.cons_ne_nil _ _) ?_
             refine AllReadyIn.cons rfl (fun K hK => ?_) AllReadyIn.nil
             refine step_appIn rfl (.tmp 19) (.tmp 23) rfl hrun8 rfl rfl (hK _ _ ?_)
             clear hK K
             refine wpAnyIn_ready (rs := [6]) (by kernel_rfl) (List.cons_ne_nil _ _) ?_
             refine AllReadyIn.cons rfl (fun K hK => ?_) AllReadyIn.nil
             refine step_in rfl ?_
             go_simp
             refine hK _ _ ?_
             clear hK K
             refine wpAnyIn_done (by kernel_rfl) ?_ _
             gi_wp2
             exact HEND.out
           refine AllReadyIn.cons rfl (fun K hK => ?_) AllReadyIn.nil
           · refine step_in rfl ?_
             go_simp
             refine hK _ _ ?_
             clear hK K
             refine wpAnyIn_ready (rs := [0]) (by kernel_rfl) (List.cons_ne_nil _ _) ?_
             refine AllReadyIn.cons rfl (fun K hK => ?_) AllReadyIn.nil
             refine step_in rfl ?_
             go_simp
             refine hK _ _ ?_
             clear hK K
             refine wpAnyIn_ready (rs := [5]) (by kernel_rfl) (List.cons_ne_nil _ _) ?_
             refine AllReadyIn.cons rfl (fun K hK => ?_) AllReadyIn.nil
             refine step_appIn rfl (.tmp 19) (.tmp 23) rfl hrun8 rfl rfl (hK _ _ ?_)
             clear hK K
             refine wpAnyIn_ready (rs := [6]) (by kernel_rfl) (List.cons_ne_nil _ _) ?_
             refine AllReadyIn.cons rfl (fun K hK => ?_) AllReadyIn.nil
             refine step_in rfl ?_
             go_simp
             refine hK _ _ ?_
             clear hK K
             refine wpAnyIn_done (by kernel_rfl) ?_ _
             gi_wp2
             exact HEND.out
   · rw [ho] at KO
     have hE := kidT_snoc f i k pre x
     rw [ho, if_pos rfl] at hE
     have HE := Lib.hid hE
     have HN := Lib.hid hnil
     clear IH hnil hE
     gi_wp2_with (refine ⟨trivial, ?_⟩; gi_at_call 236; refine (CallsIn.inRound l (callsIn_wide.2 KO)).mono ?_; rintro e w6 ⟨rfl, hb6⟩)
     refine ⟨(KeepsOthers.of_below hb6).from _, ⟨hb6.mono hBs, hb6.block _ bM.lt, hb6.block _ bT.lt⟩, ?_, ?_, ?_, ?_, hB.trans (hb6.mono hBs)⟩
     · rw [HE.out]
       exact ⟨v, (hb6.block _ hv.lt).trans hv, OwnS.up (show OwnS W _ v (txs (kidT f i k pre)) from hrow) hb6, HN.out⟩
     · exact (hb6.block _ bF.lt).trans bF
     · exact (hb6.block _ bM.lt).trans bM
     · exact (hb6.block _ bT.lt).trans bT
  case done =>
   rintro D ys W hD hS ⟨⟨v, hv, hrow, hnil⟩, bF, bM, bT, hB⟩ hK
   have hl : kidT f i k ys = (kids f i).map (treeT f k) := by rw [hS]; exact kidT_all f i k _ (Nat.le_refl _)
   have hrowS : OwnS W w.heap.size v (txs (kidT f i k ys)) := hrow
   obtain ⟨A5, c5, rfl, hR5⟩ := hrowS.slice_
   have hz5 : (txs (kidT f i k ys)).length = 0 → A5 = none ∧ c5 = 0 := fun h0 => by
    have := hnil (List.eq_nil_of_length_eq_zero (by rw [txs_len] at h0; exact h0))
    injection this with q1 _ q2
    exact ⟨q1, q2⟩
   have hn5 : (txs (kidT f i k ys)).length ≤ 7 := by rw [txs_len, hl, List.length_map]; exact Nat.le_trans (kids_len f i) h7
   have KI := inOrder_c A5 _ c5 (kidT f i k ys) _ hR5 hz5 (by omega)
   have hJ : (Lib.join (srt (kidT f i k ys)) []).length ≤ 7 * 9 ^ k := by
    rw [hl]; exact kidJ_len h7 (k := k) (fun j => by have := treeT_len h7 k j; omega) i
   have h9 := nine_le (k := k) (by omega)
   have hc := hv.cell
   have hTT : treeT f (k + 1) i = [40] ++ Lib.join (srt (kidT f i k ys)) [] ++ [41] := by rw [hl]; rfl
   have HTT := Lib.hid hTT
   have hs1 : ¬ (9223372036854775807 < (⟨#[40]⟩ : ByteArray).size + (⟨(Lib.join (srt (kidT f i k ys)) []).toArray⟩ : ByteArray).size) := by
    show ¬ (9223372036854775807 < 1 + (Lib.join (srt (kidT f i k ys)) []).toArray.size)
    rw [List.size_toArray]; omega
   clear hTT hS hnil hrow hl
   gi_wp2_with (first
    | (refine ⟨trivial, ?_⟩; gi_at_call 182; refine (callsIn_wide.2 KI).mono ?_; rintro e w5 ⟨v5, rfl, hO5, hb5⟩; obtain ⟨A6, c6, rfl, hR6⟩ := hO5.slice_)
    | (refine ⟨trivial, ?_⟩; gi_at_call 149; refine (callsIn_wide.2 (join_c A6 _ c6 (srt (kidT f i k ys)) ⟨#[]⟩ _ hR6 (by rw [txs_len, srt_len, ← txs_len]; omega) (by show (Lib.join (srt (kidT f i k ys)) []).length ≤ _; omega))).mono ?_; rintro e w6 ⟨rfl, hb6⟩))
   have hDl : D < W.heap.size := (Array.getElem?_eq_some_iff.1 hK).1
   have hK6 : w6.heap[D]? = some (.deferred (some [])) := (hb6.block D (Nat.lt_of_lt_of_le hDl hb5.size)).trans ((hb5.block D hDl).trans hK)
   have hz6 := hb5.size
   have hBe : Below w.heap.size w w6 := (hB.trans (hb5.mono hB.size)).trans (hb6.mono (by have := hB.size; omega))
   refine ⟨by simp, .inl ⟨_, _, rfl, run_takeDeferred hK6, ?_⟩⟩
   refine ⟨_, results_tmp rfl _ _ _, ?_, hBe.trans (belowK_b (w := w) (Nat.le_refl _) w6 D _ _ (by omega) hK6 rfl rfl)⟩
   exact congrArg (fun z => Ending.returned (.string z)) (str_br HTT.out)
  case stop =>
   rintro D c pre W _ _ h _
   exact h.elim
end
section
open Go.RowKit
theorem less_dec : ∀ (x y : Tx), Op.bytesLess x y = decide (x < y)
 | [], [] => by simp [Op.bytesLess]
 | _ :: _, [] => by simp [Op.bytesLess]
 | [], _ :: _ => by simp [Op.bytesLess]
 | a :: x, b :: y => by
  rw [Op.bytesLess, less_dec x y, Bool.eq_iff_iff]
  simp only [Bool.or_eq_true, decide_eq_true_eq, Bool.and_eq_true, beq_iff_eq]
  rw [List.cons_lt_cons_iff]
theorem keep_c (b : Nat) (x y : Tx) (w : World) (h : w.cell? ⟨b, 0, none⟩ = some (.string ⟨y.toArray⟩)) (hf : w.frozen? ⟨b, 0, none⟩ = false) :
    Calls Tryz.prog 211 #[.string ⟨x.toArray⟩, .pointer (some ⟨b, 0, none⟩)] w fun e w' => e = .returned (.tuple #[]) ∧ w' = if x < y then w.setCell ⟨b, 0, none⟩ (.string ⟨x.toArray⟩) else w := by
 have hq := less_dec x y
 by_cases hlt : x < y
 · rw [decide_eq_true hlt] at hq
   rw [if_pos hlt]
   clear hlt
   go_enter Tryz.func211, Tryz.ntmps211
   go_wp2_with fail
   go_end0
   exact ⟨rfl, rfl⟩
 · rw [decide_eq_false hlt] at hq
   rw [if_neg hlt]
   clear hlt
   go_enter Tryz.func211, Tryz.ntmps211
   go_wp2_with fail
   go_end0
   exact ⟨rfl, rfl⟩
theorem RdT.take_ {w : World} {B n c k : Nat} {A : Option Addr} {ts : List ByteArray} (h : RdT w B A n c ts) (hk : k ≤ n) : RdT w B A k c (ts.take k) := by
 refine ⟨by rw [List.length_take, h.1]; omega, by have := h.cap; omega, h.max, fun h0 => ?_⟩
 obtain ⟨b, off, e, hb, hc⟩ := h.2.2.2 (by omega)
 refine ⟨b, off, e, hb, fun j hj => ?_⟩
 rw [hc j (by omega)]; unfold gT; simp [List.getD, hj]
end
section
open Go.RowKit
theorem gT_txs (l : List Tx) (k : Nat) : gT (txs l) k = ⟨(gX l k).toArray⟩ := by
 unfold gT gX txs
 simp only [List.getD, List.getElem?_map]
 cases l[k]? <;> rfl
theorem txs_set (l : List Tx) (j : Nat) (x : Tx) : (txs l).set j ⟨x.toArray⟩ = txs (l.set j x) := by unfold txs; rw [List.map_set]
def OwnL (w : World) (B g n c : Nat) (l : List Tx) : Prop := l.length = n ∧ B ≤ g ∧ g < w.heap.size ∧ OwnS w B (.slice (some ⟨g, 0, none⟩) n c) (txs l)
theorem OwnL.cell {w : World} {B g n c : Nat} {l : List Tx} (h : OwnL w B g n c l) {j : Nat} (hj : j < n) : w.cell? ⟨g, j, none⟩ = some (.string ⟨(gX l j).toArray⟩) := by
 obtain ⟨hl, hB, hg, hO⟩ := h
 have hln : (txs l).length = n := by rw [txs_len, hl]
 have hO' := hO
 unfold OwnS at hO'
 rw [hln] at hO'
 rw [hO'.cellAt j (by omega)]
 have hj' : j < (txs l).length := by omega
 rw [List.getElem?_map, List.getElem?_eq_getElem hj', ← gT_get hj', gT_txs]
 rfl
theorem OwnL.frozen {w : World} {B g n c : Nat} {l : List Tx} (h : OwnL w B g n c l) (j : Nat) : w.frozen? ⟨g, j, none⟩ = false := by
 obtain ⟨hl, hB, hg, hO⟩ := h
 have hln : (txs l).length = n := by rw [txs_len, hl]
 unfold OwnS at hO
 rw [hln] at hO
 exact hO.frozenAt j
theorem OwnL.store {w : World} {B g n c : Nat} {l : List Tx} (h : OwnL w B g n c l) (j : Nat) (x : Tx) : OwnL (w.setCell ⟨g, j, none⟩ (.string ⟨x.toArray⟩)) B g n c (l.set j x) := by
 obtain ⟨hl, hB, hg, hO⟩ := h
 have hln : (txs l).length = n := by rw [txs_len, hl]
 have hO' := hO
 unfold OwnS at hO'
 rw [hln] at hO'
 refine ⟨by simpa using hl, hB, by simpa using hg, ?_⟩
 have := (hO'.stored j (.string ⟨x.toArray⟩)).1
 unfold OwnS
 rw [← txs_set, List.length_set, hln, List.map_set]
 exact this
theorem OwnL.cap {w : World} {B g n c : Nat} {l : List Tx} (h : OwnL w B g n c l) : n ≤ c ∧ c ≤ maxLen := by
 rcases h.2.2.2.2 with ⟨e, _⟩ | ⟨g', cap, cur, e, h1, h2, h3, h4, h5⟩
 · cases e
 · cases e
   have := h.1
   rw [txs_len] at h3
   omega
theorem app_texts0 {ops : Array Oper} {rest : List Oper} {o : Oper} {a : Act} {Q : Exit → Act → World → Prop} (w : World) (hgd : o.guard = none) (s x : Operand)
    (ho : o.op = .call { callee := .builtin .append, args := #[s, x], argTypes := #[34, 34] })
    (g : Nat) (hs : a.eval s = .slice (some ⟨g, 0, none⟩) 0 0) (A : Option Addr) (c : Nat) (hx : a.eval x = .slice A 0 c)
    (h : wpList Tryz.prog ops Q rest (a.put o.dst (.slice (some ⟨g, 0, none⟩) 0 0)) w) :
    wpList Tryz.prog ops Q (o :: rest) a w := by
 obtain ⟨i0, hi, hz0, hz1, hz2⟩ := info_parts text_info
 refine wpList_plain hgd fun K hK => ?_
 have hrun : (Builtin.append_ #[34, 34] o.type #[.slice (some ⟨g, 0, none⟩) 0 0, .slice A 0 c]).run Tryz.prog w = .ok (.slice (some ⟨g, 0, none⟩) 0 0) w := by
  rcases A with _ | p
  · simp [Builtin.append_, run_underlying Tryz.underlying34, sizeOf, typeInfo, hi, Builtin.lenOf, Builtin.firstCells, storeCells]
  · simp [Builtin.append_, run_underlying Tryz.underlying34, sizeOf, typeInfo, hi, Builtin.lenOf, Builtin.firstCells, storeCells, loadCells, loadCellsFrom]
 unfold Oper.wp
 simp [execOp, ho, resolve, invoke, builtin, hs, hx, hrun, Result.andThen]
 exact hK _ _ h
set_option maxRecDepth 100000 in
set_option maxHeartbeats 3200000 in
theorem sSorted_c (A : Option Addr) (n c : Nat) (ts : List Tx) (w : World) (h : RdT w w.heap.size A n c (txs ts)) (hn : n ≤ 1000) :
    Calls Tryz.prog 126 #[.slice A n c] w fun e w' => ∃ v, e = .returned v ∧ OwnS w' w.heap.size v (txs (srt ts)) ∧ Below w.heap.size w w' := by
 have hb1 := below_new w (Obj.cells #[] 9)
 have hO1 := OwnS.made w w.heap.size #[] (Nat.le_refl _) rfl
 have hrd := h.up hb1
 have hl := h.len
 rw [txs_len] at hl
 rcases Nat.eq_zero_or_pos n with h0 | h0
 · subst h0
   have e : ts = [] := List.eq_nil_of_length_eq_zero hl
   subst e
   go_enter Tryz.func126, Tryz.ntmps126
   go_wp2_with (at_builtin; refine app_texts0 (w.alloc (.cells #[] 9)) rfl _ _ rfl w.heap.size rfl A c rfl ?_)
   go_loopw [4] (fun i wr => i = .int .i64 1 ∧ wr = w.alloc (.cells #[] 9)) (fun _ _ => 0)
   case atStart => exact ⟨rfl, rfl⟩
   case round =>
    obtain ⟨rfl, rfl⟩ := hrel
    go_wp2_with fail
    go_ret
    exact ⟨_, rfl, by rw [show srt [] = [] from by simp [srt]]; exact hO1, hb1⟩
 · go_enter Tryz.func126, Tryz.ntmps126
   go_wp2_with (at_builtin; refine app_texts (w.alloc (.cells #[] 9)) rfl _ _ rfl w.heap.size _ rfl hO1 A n c (txs ts) rfl hrd h0 (by omega) hb1.size ?_; intro v1 w1 hown1 hb2)
   have hB1 := hb1.trans hb2
   have hz1 := hB1.size
   obtain ⟨g, cap, rfl, hL1⟩ : ∃ g cap, v1 = .slice (some ⟨g, 0, none⟩) n cap ∧ OwnL w1 w.heap.size g n cap ts := by
    have hh := hown1
    have hln : (txs ts).length = n := by rw [txs_len, hl]
    rcases hown1.2 with ⟨rfl, h9⟩ | ⟨g, cap, cur, rfl, hb, hg, r⟩
    · omega
    · rw [hln] at hh ⊢
      exact ⟨g, cap, rfl, hl, hb, (Array.getElem?_eq_some_iff.1 hg).1, hh⟩
   clear hown1 hb2 hb1 hO1 hrd
   have hcap := hL1.cap
   unfold maxLen at hcap
   have HP0 : Hid (ts.Perm ts) := Lib.hid (List.Perm.refl _)
   have HA0 : Hid (AscT ts 1) := Lib.hid (ascT_one ts)
   go_wp2_with fail
   go_loopw [4] (fun i wr => ∃ (k : Nat) (l : List Tx), 1 ≤ k ∧ (k ≤ n) ∧ i = .int .i64 (k : Int) ∧ OwnL wr w.heap.size g n cap l ∧ l.Perm ts ∧ AscT l k ∧ Below w.heap.size w wr) (fun i _ => n - (intOf i).toNat)
   case atStart => exact ⟨1, ts, Nat.le_refl _, h0, rfl, hL1, HP0.out, HA0.out, hB1⟩
   case round =>
    clear hL1 hB1 HP0 HA0
    obtain ⟨k, l, hk1, hkn, rfl, hL, hp, ha, hbw⟩ := hrel
    by_cases hlt : k < n
    · have HI : Hid (Insd l (k + 1) k) := Lib.hid ha.next
      have HP := Lib.hid hp
      have hk9 : (k : Int) < (n : Int) := by omega
      clear ha hp
      go_wp2_with fail
      go_loopw [5] (fun i wr => ∃ (j : Nat) (l : List Tx), j ≤ k ∧ i = .int .i64 (j : Int) ∧ OwnL wr w.heap.size g n cap l ∧ l.Perm ts ∧ Insd l (k + 1) j ∧ Below w.heap.size w wr) (fun i _ => (intOf i).toNat)
      case atStart => exact ⟨k, l, Nat.le_refl _, rfl, hL, HP.out, HI.out, hbw⟩
      case round =>
       clear hL hbw HP HI
       obtain ⟨j, l, hjk, rfl, hL, hp, hi, hbw⟩ := hrel
       have HP := Lib.hid hp
       have HI := Lib.hid hi
       clear hp hi
       by_cases hj0 : 0 < j
       · have hc1 := hL.cell (j := j) (by omega)
         have hc2 := hL.cell (j := j - 1) (by omega)
         have hf1 := hL.frozen j
         have hf2 := hL.frozen (j - 1)
         have hji : (0 : Int) < (j : Int) := by omega
         have hjn : (j : Int) < (n : Int) := by omega
         have hjm : (0 : Int) ≤ (j : Int) - 1 := by omega
         have hjm2 : (j : Int) - 1 < (n : Int) := by omega
         have hjt : ((j : Int) - 1).toNat = j - 1 := by omega
         have hwj : IntKind.i64.wrap ((j : Int) - 1) = (j : Int) - 1 := IntWalk.i64_in _ (by omega)
         have hq := less_dec (gX l j) (gX l (j - 1))
         obtain ⟨x, hx⟩ : ∃ x, gX l j = x := ⟨_, rfl⟩
         obtain ⟨y, hy⟩ : ∃ y, gX l (j - 1) = y := ⟨_, rfl⟩
         have HX := Lib.hid hx
         have HY := Lib.hid hy
         rw [hx] at hc1 hq
         rw [hy] at hc2 hq
         clear hx hy
         have hll := hL.1
         have hgB := hL.2.1
         by_cases hlt2 : x < y
         · have HN : Hid (Insd (swapT l j) (k + 1) (j - 1)) := Lib.hid (HI.out.swap hj0 (by omega) (by omega) (by rw [HX.out, HY.out]; exact hlt2))
           have HPN : Hid ((swapT l j).Perm ts) := Lib.hid ((swapT_perm hj0 (by omega)).trans HP.out)
           rw [decide_eq_true hlt2] at hq
           have hc3 : (wr.setCell ⟨g, j, none⟩ (.string ⟨y.toArray⟩)).frozen? ⟨g, j - 1, none⟩ = false := by rw [World.frozen?_setCell]; exact hf2
           clear hlt2
           go_wp2_with fail
           go_quiet (fail)
           have hL2 : OwnL (wr.drewN nq) w.heap.size g n cap l := hL
           have hB2 : Below w.heap.size w (wr.drewN nq) := bd hbw nq
           go_wp2_with fail
           go_roundw
           case rel => exact ⟨j - 1, swapT l j, by omega, by go_num, by unfold swapT; rw [HX.out, HY.out]; exact (hL2.store j y).store (j - 1) x, HPN.out, HN.out, (hB2.setCell (p := ⟨g, j, none⟩) hgB _).setCell (p := ⟨g, j - 1, none⟩) hgB _⟩
           case measure => simp [intOf]; omega
         · have HN : Hid (AscT l (k + 1)) := Lib.hid (HI.out.done (.inr (by rw [HX.out, HY.out]; exact hlt2)))
           rw [decide_eq_false hlt2] at hq
           clear hlt2
           go_wp2_with fail
           go_quiet (fail)
           have hL2 : OwnL (wr.drewN nq) w.heap.size g n cap l := hL
           have hB2 : Below w.heap.size w (wr.drewN nq) := bd hbw nq
           go_wp2_with fail
           go_roundw
           case rel => exact ⟨k + 1, l, by omega, by omega, by go_num, hL2, HP.out, HN.out, hB2⟩
           case measure => simp [intOf]; omega
       · obtain rfl : j = 0 := by omega
         have HN : Hid (AscT l (k + 1)) := Lib.hid (HI.out.done (.inl rfl))
         go_wp2_with fail
         go_quiet (fail)
         have hL2 : OwnL (wr.drewN nq) w.heap.size g n cap l := hL
         have hB2 : Below w.heap.size w (wr.drewN nq) := bd hbw nq
         go_wp2_with fail
         go_roundw
         case rel => exact ⟨k + 1, l, by omega, by omega, by go_num, hL2, HP.out, HN.out, hB2⟩
         case measure => simp [intOf]; omega
    · obtain rfl : k = n := by omega
      have HE : Hid (l = srt ts) := Lib.hid (srt_of hp (by rw [hL.1]; exact ha))
      have hO := hL.2.2.2
      rw [HE.out] at hO
      have hk9 : ¬ (k : Int) < (k : Int) := by omega
      clear ha hp
      go_wp2_with fail
      go_ret
      exact ⟨_, rfl, hO, hbw⟩
end
section
open Go.RowKit
theorem loopTs_len {f : List Nat} (hf : MapN f) {i : Nat} (hi : i < f.length) : (loopTs f i).length = wl f (lo f i) := by unfold loopTs way; rw [List.length_map, orb_len]
theorem take_succ_ {l : List Tx} {k : Nat} {x : Tx} (h : l[k]? = some x) : l.take (k + 1) = l.take k ++ [x] := by rw [List.take_add_one, h]; rfl
theorem loopTs_at {f : List Nat} {i k : Nat} (hk : k < wl f (lo f i)) : (loopTs f i)[k]? = some (treeT f f.length (it f k (lo f i))) := by
 rw [loopTs_eq, List.getElem?_map, List.getElem?_range hk]; rfl
theorem joinX_len {ts : List Tx} {M : Nat} (h : ∀ t ∈ ts, t.length ≤ M) (hl : ts.length ≤ 7) : (Lib.join ts []).length ≤ 7 * M := by
 rw [join_flat]
 have := flat_len h
 have := Nat.mul_le_mul_right M hl
 omega
theorem loopTs_mem {f : List Nat} (h7 : f.length ≤ 7) {i : Nat} {t : Tx} (h : t ∈ loopTs f i) : t.length ≤ 4782969 := by
 unfold loopTs at h
 rw [List.mem_map] at h
 obtain ⟨j, _, rfl⟩ := h
 have := treeT_len h7 f.length j
 have := nine_le h7
 omega
theorem RdT.dropO {w : World} {B g off n c k : Nat} {ts : List ByteArray} (h : RdT w B (some ⟨g, off, none⟩) n c ts) (hk : k ≤ n) : RdT w B (some ⟨g, off + k, none⟩) (n - k) (c - k) (ts.drop k) := by
 refine ⟨by rw [List.length_drop, h.1], by have := h.cap; omega, by have := h.max; omega, fun h0 => ?_⟩
 obtain ⟨b, o, e, hb, hc⟩ := h.2.2.2 (by omega)
 cases e
 refine ⟨g, off + k, rfl, hb, fun j hj => ?_⟩
 have := hc (k + j) (by omega)
 rw [Nat.add_assoc, this]; unfold gT; simp [List.getD]
theorem keepB_c (b : Nat) (x y : Tx) (w : World) (h : Boxed w b 9 (.string ⟨y.toArray⟩)) :
    Calls Tryz.prog 211 #[.string ⟨x.toArray⟩, .pointer (some ⟨b, 0, none⟩)] w fun e w' => e = .returned (.tuple #[]) ∧ Boxed w' b 9 (.string ⟨(if x < y then x else y).toArray⟩) ∧ Below b w w' := by
 refine (keep_c b x y w h.cell h.frozen).mono ?_
 rintro e w' ⟨rfl, rfl⟩
 by_cases hlt : x < y
 · rw [if_pos hlt, if_pos hlt]
   exact ⟨rfl, h.set _, (Below.refl b w).setCell (p := ⟨b, 0, none⟩) (Nat.le_refl _) _⟩
 · rw [if_neg hlt, if_neg hlt]
   exact ⟨rfl, h, Below.refl _ _⟩
theorem first_ {W W' : World} {b : Nat} (h : Below W.drew.heap.size W.drew W') (hb : b < W.heap.size) : Below b W W' := ((Below.refl b W).drew).trans (h.mono (Nat.le_of_lt hb))
theorem rot_str (ts : List Tx) (j : Nat) : (⟨(Lib.join (ts.drop j) []).toArray⟩ ++ ⟨(Lib.join (ts.take j) []).toArray⟩ : ByteArray) = ⟨(rot ts j).toArray⟩ := by
 unfold rot; apply ByteArray.ext; simp
theorem txs_drop (l : List Tx) (k : Nat) : (txs l).drop k = txs (l.drop k) := by unfold txs; rw [List.map_drop]
theorem txs_take (l : List Tx) (k : Nat) : (txs l).take k = txs (l.take k) := by unfold txs; rw [List.map_take]
set_option maxRecDepth 100000 in
set_option maxHeartbeats 1600000 in
theorem loopText_c {f : List Nat} (hf : MapN f) (i : Nat) (hi : i < f.length) (A : Option Addr) (c : Nat) (w : World) (h : Rd w w.heap.size A f.length c (ints f)) :
    Calls Tryz.prog 181 #[.slice A f.length c, .int .i64 (i : Int)] w (Txt w (loopT f i)) := by
 have hat := atOk_ints hf hi
 have h7 := hf.le7
 have ha := lo_lt hf hi
 have hL : wl f (lo f i) ≤ 7 := Nat.le_trans (wl_le hf ha) h7
 have hLp : 1 ≤ wl f (lo f i) := (wl_isWay hf ha).pos
 have hwi := wayI_ok hf ha
 have HLO := Lib.hid (loopI_ok hf hi)
 have K1 := thingOk_c A f.length c (ints f) (i : Int) w h
 rw [hat] at K1
 go_enter Tryz.func181, Tryz.ntmps181
 go_wp2_with (go_at_call 116; refine K1.mono ?_; rintro e w' ⟨rfl, rfl⟩)
 refine (loopOf_c _ _ _ _ _ _ h).mono ?_
 rintro e w1 ⟨rfl, hb1⟩
 rw [HLO.out]
 have hr1 := h.up hb1
 go_wp2_with fail
 refine (wayFrom_c _ _ _ _ _ _ hr1).mono ?_
 rintro e w2 ⟨v, rfl, hO, hb2⟩
 rw [hwi] at hO
 obtain ⟨A2, c2, rfl, hO2⟩ := hO.form
 have hR2 := hO2.rd
 have hl2 : (ints (way f (lo f i))).length = wl f (lo f i) := by rw [ints_len]; unfold way; exact orb_len _ _ _
 rw [hl2] at hR2
 have hr2 := hr1.up hb2
 have hB2 := bt hb1 hb2
 have HT := Lib.hid (loopTs_len hf hi)
 rw [hl2]
 clear hr1 hb1 hb2 hO hO2 hwi K1
 generalize hLL : wl f (lo f i) = L at *
 go_wp2_with fail
 have htl : (loopTs f i).length = L := HT.out
 have hmem := fun (x : Tx) (hx : x ∈ loopTs f i) => loopTs_mem h7 hx
 have hat' := fun k (hk : k < L) => loopTs_at (f := f) (i := i) (k := k) (by rw [hLL]; exact hk)
 have hil := fun k => it_lt hf ha k
 have hw2 := hB2.size
 have HLT : Hid (loopT f i = minK (loopTs f i) L) := by unfold Hid loopT; rw [htl]
 have hwy : ∀ k, k < L → gI (ints (way f (lo f i))) k = (it f k (lo f i) : Int) := fun k hk => by
  rw [gI_ints, nx_get (by unfold way; rw [orb_len, hLL]; exact hk)]
  exact congrArg (fun z : Nat => (z : Int)) (orb_get _)
 generalize loopTs f i = ts at *
 clear hat
 go_loopw [5, 21] (fun v i' wr => ∃ k : Nat, k ≤ L ∧ i' = .int .i64 k ∧ OwnS wr w2.heap.size v (txs (ts.take k)) ∧ Below w2.heap.size w2 wr) (fun _ i' _ => L - (intOf i').toNat)
 case atStart => exact ⟨0, Nat.zero_le _, rfl, by rw [List.take_zero]; exact OwnS.nil_ _ _, Below.refl _ _⟩
 case round =>
  obtain ⟨k, hk, rfl, hown, hbw⟩ := hrel
  by_cases hlt : k < L
  · have hR := hR2.up hbw
    have hrd := hr2.up hbw
    obtain ⟨b, off, rfl, hbb, hcell⟩ := hR.at_ hlt
    rw [hwy k hlt] at hcell
    have HS := Lib.hid (take_succ_ (hat' k hlt))
    have hxl := hil k
    generalize it f k (lo f i) = x at *
    have KT := fun (W' : World) (hr : Rd W' W'.heap.size A f.length c (ints f)) => treeText_c hf f.length x h7 hxl (Nat.le_add_left _ _) A c W' hr
    clear hwy hat' hil
    go_wp2_with fail
    refine (KT _ hrd).mono ?_
    rintro e w3 ⟨rfl, hb3⟩
    have hown3 := hown.up hb3
    have hbw3 := bt hbw hb3
    have hz3 := hbw3.size
    clear hown hR hrd hcell hbw hb3 KT
    go_wp2_with (at_builtin; refine app_text w3 ⟨(treeT f f.length x).toArray⟩ rfl _ _ rfl w2.heap.size _ (txs (ts.take k)) rfl hown3 rfl (by rw [txs_len, List.length_take]; omega) (by omega) ?_; intro v' w4 hown4 hb4)
    go_roundw
    case rel => exact ⟨k + 1, by omega, by go_num, by rw [HS.out, txs_app]; exact hown4, hbw3.trans hb4⟩
    case measure => simp [intOf]; omega
  · obtain rfl : k = L := by omega
    rw [List.take_of_length_le (by omega)] at hown
    obtain ⟨A5, c5, rfl, hR5⟩ := hown.slice_
    have hrd := hr2.up hbw
    have hBw := hB2.trans (hbw.mono hw2)
    have hn := txs_len ts
    rw [htl] at hn
    rw [hn] at hR5 ⊢
    clear hown hR2 hr2 hbw hwy hat' hil
    go_wp2_with fail
    refine (join_c A5 _ c5 ts ⟨#[]⟩ _ hR5 (by omega) (by have := joinX_len hmem (by omega); show (Lib.join ts []).length ≤ _; omega)).mono ?_
    rintro e w5 ⟨rfl, hb5⟩
    have hR6 := (hR5.up hb5).below (show Below w5.heap.size w5 (w5.alloc (.cells #[.string ⟨(Lib.join ts []).toArray⟩] 9)) from (Below.refl _ _).alloc (Nat.le_refl _) _)
    have hB6 := (hBw.trans (hb5.mono (by have := hBw.size; omega))).alloc (by have := hBw.size; have := hb5.size; omega) (.cells #[.string ⟨(Lib.join ts []).toArray⟩] 9)
    have hC6 : (w5.alloc (.cells #[.string ⟨(Lib.join ts []).toArray⟩] 9)).heap[w5.heap.size]? = some (.cells #[.string ⟨(Lib.join ts []).toArray⟩] 9 (0, 0)) := heap_alloc_new _ _
    have hw5 : w.heap.size ≤ w5.heap.size := by have := hBw.size; have := hb5.size; omega
    clear hR5 hb5 hBw
    go_wp2_with fail
    generalize w5.alloc (.cells #[.string ⟨(Lib.join ts []).toArray⟩] 9) = w6 at *
    have bX6 : Boxed w6 w5.heap.size 9 (.string ⟨(Lib.join ts []).toArray⟩) := hC6
    have hw6 := bX6.lt
    have hcp5 := hR6.cap
    have hmx5 := hR6.max
    unfold maxLen at hmx5
    go_loopw [37] (fun i' wr => ∃ j : Nat, j ≤ k ∧ i' = .int .i64 j ∧ Boxed wr w5.heap.size 9 (.string ⟨(minK ts j).toArray⟩) ∧ Below w5.heap.size w6 wr) (fun i' _ => k - (intOf i').toNat)
    case atStart => exact ⟨0, Nat.zero_le _, rfl, bX6, Below.refl _ _⟩
    case round =>
     obtain ⟨j, hj, rfl, hX, hbx⟩ := hrel
     have hcX := hX.cell
     have hfX := hX.frozen
     by_cases hlt : j < k
     · have hRr := hR6.below hbx
       obtain ⟨g, off, rfl, hg, -⟩ := hRr.at_ (k := 0) (by omega)
       have hD := hRr.dropO (k := j) (by omega)
       have hT := hRr.take_ (k := j) (by omega)
       rw [txs_drop] at hD
       rw [txs_take] at hT
       have hsz := hX.lt
       have hJD : (Lib.join (ts.drop j) []).length ≤ 7 * 4782969 := joinX_len (fun x hx => hmem x (List.mem_of_mem_drop hx)) (by rw [List.length_drop]; omega)
       have hJT : (Lib.join (ts.take j) []).length ≤ 7 * 4782969 := joinX_len (fun x hx => hmem x (List.mem_of_mem_take hx)) (by rw [List.length_take]; omega)
       have hcat := rot_str ts j
       have hsum : ¬ (9223372036854775807 < (⟨(Lib.join (ts.drop j) []).toArray⟩ : ByteArray).size + (⟨(Lib.join (ts.take j) []).toArray⟩ : ByteArray).size) := by
        show ¬ (9223372036854775807 < (Lib.join (ts.drop j) []).toArray.size + (Lib.join (ts.take j) []).toArray.size)
        rw [List.size_toArray, List.size_toArray]; omega
       have HD := Lib.hid (fun (W : World) (hb : Below wr.drew.heap.size wr.drew W) => (show RdT W W.heap.size (some ⟨g, off + j, none⟩) (k - j) (c5 - j) (txs (ts.drop j)) from ((show RdT wr.drew w5.heap.size _ _ _ _ from hD).below (hb.mono (show w5.heap.size ≤ wr.heap.size by omega))).more (by have := hb.size; have h9 : wr.heap.size ≤ W.heap.size := this; omega)))
       have HT2 := Lib.hid (fun (W : World) (hb : Below wr.drew.heap.size wr.drew W) => (show RdT W W.heap.size (some ⟨g, off, none⟩) j c5 (txs (ts.take j)) from ((show RdT wr.drew w5.heap.size _ _ _ _ from hT).below (hb.mono (show w5.heap.size ≤ wr.heap.size by omega))).more (by have := hb.size; have h9 : wr.heap.size ≤ W.heap.size := this; omega)))
       have HXW := Lib.hid (fun (W : World) (hb : Below wr.drew.heap.size wr.drew W) => (show Boxed W w5.heap.size 9 (.string ⟨(minK ts j).toArray⟩) from (hb.block _ (show _ < wr.drew.heap.size from hsz)).trans hX))
       have hj5 : j ≤ c5 := by omega
       have hj5n : ¬ c5 = j := by omega
       have hj5i : (j : Int) ≤ (c5 : Int) := by omega
       have hjki : (j : Int) ≤ (k : Int) := by omega
       have HBX := Lib.hid hbx
       have HSZ := Lib.hid hsz
       clear hD hT hRr hX hbx hsz hcX hfX hmem HLT hB6 hR6 bX6
       go_upto_region 14 with fail
       go_region_with (first
           | (go_at_call 149; with_reducible refine (join_c (some ⟨g, off + j, none⟩) (k - j) (c5 - j) (ts.drop j) ⟨#[]⟩ _ ?_ ?_ ?_).mono ?_; (first | exact HD.out _ (Below.refl _ _) | exact HD.out _ hbt); (omega); (exact Nat.le_trans hJD (by omega)); rintro e wd ⟨rfl, hbd⟩; (try have hbd2 := hbt.trans (hbd.mono hbt.size)))
           | (go_at_call 149; with_reducible refine (join_c (some ⟨g, off, none⟩) j c5 (ts.take j) ⟨#[]⟩ _ ?_ ?_ ?_).mono ?_; (first | exact HT2.out _ (Below.refl _ _) | exact HT2.out _ hbd); (omega); (exact Nat.le_trans hJT (by omega)); rintro e wt ⟨rfl, hbt⟩; (try have hbt2 := hbd.trans (hbt.mono hbd.size)))
           | (go_at_call 211; refine (keepB_c w5.heap.size (rot ts j) (minK ts j) _ (by first | exact HXW.out _ hbd2 | exact HXW.out _ hbt2)).mono ?_; rintro e w8 ⟨rfl, hX8, hb8⟩))
       all_goals
        go_wp2_with fail
        go_roundw
        case rel => exact ⟨j + 1, by omega, by go_num, hX8, HBX.out.trans ((first_ (by first | exact hbd2 | exact hbt2) HSZ.out).trans hb8)⟩
        case measure => simp [intOf]; omega
     · obtain rfl : j = k := by omega
       go_wp2_with fail
       go_ret
       exact ⟨by rw [HLT.out]; rfl, hB6.trans (hbx.mono hw5)⟩
end
section
open Go.RowKit
theorem loops_rows (f : List Nat) : ∀ K, loopsK f K = (repsN f K).map (fun k => ints (way f k))
 | 0 => rfl
 | K + 1 => by
  have ih := loops_rows f K
  unfold repsN at ih ⊢
  rw [List.range_succ, List.filter_append, List.map_append, ← ih]
  by_cases h : lo f K = K
  · rw [loopsK_t h]; simp [h]
  · rw [loopsK_f h]; simp [h]
theorem reps_len (f : List Nat) (K : Nat) : (repsN f K).length ≤ K := by
 have := List.length_filter_le (fun k => decide (lo f k = k)) (List.range K)
 rw [List.length_range] at this
 exact this
theorem loops_at {f : List Nat} (hf : MapN f) {m : Nat} (hm : m < (repsN f f.length).length) : ∃ r, (repsN f f.length)[m]? = some r ∧ r < f.length ∧ gR (loopsN f) m = ints (way f r) := by
 have hr : (repsN f f.length)[m]? = some ((repsN f f.length)[m]) := List.getElem?_eq_getElem hm
 refine ⟨_, hr, ?_, ?_⟩
 · have := List.getElem_mem hm
   unfold repsN at this
   rw [List.mem_filter, List.mem_range] at this
   exact this.1
 · unfold loopsN
   rw [loops_rows]
   unfold gR
   simp [List.getD, hr]
theorem loopT_len {f : List Nat} (hf : MapN f) {i : Nat} (hi : i < f.length) : (loopT f i).length ≤ 14 * 4782969 := by
 have hL : (loopTs f i).length ≤ 7 := by rw [loopTs_len hf hi]; exact Nat.le_trans (wl_le hf (lo_lt hf hi)) hf.le7
 obtain ⟨j, h1, _⟩ := minK_at (loopTs f i) (loopTs f i).length
 unfold loopT
 rw [h1]
 unfold rot
 rw [List.length_append]
 have hd := joinX_len (ts := (loopTs f i).drop j) (M := 4782969) (fun t ht => loopTs_mem hf.le7 (List.mem_of_mem_drop ht)) (by rw [List.length_drop]; omega)
 have ht := joinX_len (ts := (loopTs f i).take j) (M := 4782969) (fun t ht => loopTs_mem hf.le7 (List.mem_of_mem_take ht)) (by rw [List.length_take]; omega)
 omega
theorem joinP_len {ts : List Tx} {M : Nat} (h : ∀ t ∈ ts, t.length ≤ M) (hl : ts.length ≤ 7) : (Lib.join ts [43]).length ≤ 7 * M + 7 := by
 cases ts with
 | nil => simp [Lib.join_nil]
 | cons x r =>
  rw [Lib.join_length]
  have e : Lib.lens (x :: r) = (x :: r).flatten.length := by
   have := Lib.join_length x r []
   rw [join_flat] at this
   simp at this
   simp [this]
  rw [e]
  have h1 := flat_len h
  have h2 := Nat.mul_le_mul_right M hl
  have h3 : ([43] : List UInt8).length * r.length = r.length := by simp
  rw [h3]
  simp only [List.length_cons] at hl h1 h2 ⊢
  omega
set_option maxRecDepth 100000 in
set_option maxHeartbeats 1600000 in
theorem shapeText_c {f : List Nat} (hf : MapN f) (A : Option Addr) (c : Nat) (w : World) (h : Rd w w.heap.size A f.length c (ints f)) :
    Calls Tryz.prog 150 #[.slice A f.length c] w (Txt w (shapeT f)) := by
 have h7 := hf.le7
 have hRn := reps_len f f.length
 have hll : (loopsN f).length = (repsN f f.length).length := by unfold loopsN; rw [loops_rows, List.length_map]
 have hat := fun m (hm : m < (repsN f f.length).length) => loops_at hf hm
 have HS : Hid (shapeT f = Lib.join (srt ((repsN f f.length).map (loopT f))) [43]) := rfl
 have hlt : ∀ t ∈ (repsN f f.length).map (loopT f), t.length ≤ 14 * 4782969 := fun t ht => by
  rw [List.mem_map] at ht
  obtain ⟨r, hr, rfl⟩ := ht
  unfold repsN at hr
  rw [List.mem_filter, List.mem_range] at hr
  exact loopT_len hf hr.1
 go_enter Tryz.func150, Tryz.ntmps150
 go_wp2_with fail
 refine (loopsOf_c _ _ _ _ _ h).mono ?_
 rintro e w1 ⟨v, rfl, hO, hb1⟩
 rw [loopsI_ok hf] at hO
 obtain ⟨A1, c1, rfl, hR1⟩ := hO.form
 have hr1 := h.up hb1
 have hw1 := hb1.size
 clear hO
 rw [hll] at hR1 ⊢
 have hcp := hR1.cap
 have hmx := hR1.max
 unfold maxLen at hmx
 generalize hrr : repsN f f.length = rs at *
 go_wp2_with fail
 go_loopw [3, 9] (fun v i' wr => ∃ k : Nat, k ≤ rs.length ∧ i' = .int .i64 k ∧ (OwnS wr w1.heap.size v (txs ((rs.map (loopT f)).take k)) ∧ (k = 0 → v = .slice none 0 0)) ∧ Below w1.heap.size w1 wr) (fun _ i' _ => rs.length - (intOf i').toNat)
 case atStart => exact ⟨0, Nat.zero_le _, rfl, ⟨by rw [List.take_zero]; exact OwnS.nil_ _ _, fun _ => rfl⟩, Below.refl _ _⟩
 case round =>
  obtain ⟨k, hk, rfl, ⟨hown, hnil⟩, hbw⟩ := hrel
  by_cases hltk : k < rs.length
  · have hR := hR1.up hbw
    have hrd := hr1.up hbw
    obtain ⟨r, hr, hrf, hgr⟩ := hat k hltk
    obtain ⟨b, off, A', n', c', rfl, hbb, hcell, hrow⟩ := hR.at_ hltk
    rw [hgr] at hrow
    have hwl : 1 ≤ (way f r).length := by unfold way; rw [orb_len]; exact (wl_isWay hf hrf).pos
    have hn' : (ints (way f r)).length = n' := hrow.len
    rw [ints_len] at hn'
    obtain ⟨b2, off2, rfl, hbb2, hcell2⟩ := hrow.at_ (k := 0) (by omega)
    have e0 : gI (ints (way f r)) 0 = (r : Int) := by
     rw [gI_ints, nx_get (by omega)]
     exact congrArg (fun z : Nat => (z : Int)) (orb_get _)
    rw [e0] at hcell2
    rw [Nat.add_zero] at hcell2
    have hpos : (0 : Int) < (n' : Int) := by omega
    have HT := Lib.hid (take_succ_ (l := rs.map (loopT f)) (k := k) (x := loopT f r) (by rw [List.getElem?_map, hr]; rfl))
    clear hat hrow hR
    go_wp2_with fail
    refine (loopText_c hf r hrf A c _ hrd).mono ?_
    rintro e w3 ⟨rfl, hb3⟩
    have hown3 := hown.up hb3
    have hbw3 := bt hbw hb3
    have hz3 := hbw3.size
    clear hown hrd hcell hcell2 hbw hb3 hnil
    go_wp2_with (at_builtin; refine app_text w3 ⟨(loopT f r).toArray⟩ rfl _ _ rfl w1.heap.size _ (txs ((rs.map (loopT f)).take k)) rfl hown3 rfl (by rw [txs_len, List.length_take]; omega) (by omega) ?_; intro v' w4 hown4 hb4)
    go_roundw
    case rel => exact ⟨k + 1, by omega, by go_num, ⟨by rw [HT.out, txs_app]; exact hown4, fun h0 => by omega⟩, hbw3.trans hb4⟩
    case measure => simp [intOf]; omega
  · obtain rfl : k = rs.length := by omega
    rw [List.take_of_length_le (by rw [List.length_map]; exact Nat.le_refl _)] at hown
    obtain ⟨A5, c5, rfl, hR5⟩ := hown.slice_
    have hn5 : (txs (rs.map (loopT f))).length = rs.length := by rw [txs_len, List.length_map]
    rw [hn5] at hR5 hnil ⊢
    have hz5 : rs.length = 0 → A5 = none ∧ c5 = 0 := fun h0 => by
     have := hnil h0
     injection this with q1 _ q2
     exact ⟨q1, q2⟩
    clear hown hnil hat hR1
    go_wp2_with fail
    refine (inOrder_c A5 _ c5 (rs.map (loopT f)) _ hR5 hz5 (by omega)).mono ?_
    rintro e w6 ⟨v6, rfl, hO6, hb6⟩
    obtain ⟨A6, c6, rfl, hR6⟩ := hO6.slice_
    have hn6 : (txs (srt (rs.map (loopT f)))).length = rs.length := by rw [txs_len, srt_len, List.length_map]
    rw [hn6] at hR6 ⊢
    clear hR5 hO6
    have hjl : (Lib.join (srt (rs.map (loopT f))) [43]).length ≤ 7 * (14 * 4782969) + 7 := joinP_len (fun t ht => hlt t (srt_mem.1 ht)) (by rw [srt_len, List.length_map]; omega)
    go_wp2_with fail
    refine (join_c A6 _ c6 (srt (rs.map (loopT f))) ⟨#[43]⟩ _ hR6 (by omega) (by show (Lib.join (srt (rs.map (loopT f))) [43]).length ≤ _; omega)).mono ?_
    rintro e w7 ⟨rfl, hb7⟩
    have hB := bt (bt (hb1.trans (hbw.mono hw1)) hb6) hb7
    go_wp2_with fail
    go_ret
    exact ⟨by rw [HS.out]; rfl, hB⟩
end
section
open Go.RowKit
theorem kidsK_t {f : List Nat} {i m : Nat} (h : nx f m = i) (ho : onL f m = false) : kidsK f i (m + 1) = kidsK f i m ++ [m] := by
 unfold kidsK; rw [List.range_succ, List.filter_append]; simp [h, ho]
theorem kidsK_f {f : List Nat} {i m : Nat} (h : ¬ (nx f m = i ∧ onL f m = false)) : kidsK f i (m + 1) = kidsK f i m := by
 unfold kidsK; rw [List.range_succ, List.filter_append]
 have : (decide (nx f m = i) && !onL f m) = false := by
  rw [Bool.eq_false_iff]; intro e
  simp only [Bool.and_eq_true, decide_eq_true_eq, Bool.not_eq_true'] at e
  exact h e
 simp [this]
theorem kidsK_len (f : List Nat) (i m : Nat) : (kidsK f i m).length ≤ m := by
 have := List.length_filter_le (fun j => decide (nx f j = i) && !onL f j) (List.range m)
 rw [List.length_range] at this
 exact this
theorem str_app (a b : Tx) : (⟨a.toArray⟩ ++ ⟨b.toArray⟩ : ByteArray) = ⟨(a ++ b).toArray⟩ := bl_app a b
theorem str_size (a : Tx) : (⟨a.toArray⟩ : ByteArray).size = a.length := bl_size a
theorem gX_mem {l : List Tx} {k : Nat} (h : k < l.length) : gX l k ∈ l := by rw [gX_get h]; exact List.getElem_mem h
theorem flat_take {l : List Tx} {k : Nat} (h : k < l.length) : (l.take (k + 1)).flatten = (l.take k).flatten ++ gX l k := by
 rw [List.take_succ_eq_append_getElem h, List.flatten_append, gX_get h]; simp
theorem flat_take_len {l : List Tx} {M : Nat} (h : ∀ t ∈ l, t.length ≤ M) (hl : l.length ≤ 7) (k : Nat) : (l.take k).flatten.length ≤ 7 * M := by
 have h1 := flat_len (ts := l.take k) (M := M) (fun t ht => h t (List.mem_of_mem_take ht))
 have h2 : (l.take k).length ≤ 7 := by rw [List.length_take]; omega
 exact Nat.le_trans h1 (Nat.mul_le_mul_right M h2)
set_option maxRecDepth 100000 in
set_option maxHeartbeats 3200000 in
theorem sTree_c {f : List Nat} (hf : MapN f) : ∀ (k i : Nat), k ≤ 7 → i < f.length → f.length ≤ tl f i + k → ∀ (A : Option Addr) (c : Nat) (w : World), Rd w w.heap.size A f.length c (ints f) →
    Calls Tryz.prog 164 #[.slice A f.length c, .int .i64 (i : Int)] w (Txt w (treeT f k i))
 | 0, i, _, hi, ht, A, c, w, h => by have := tl_lt hf hi; omega
 | k + 1, i, hk7, hi, ht, A, c, w, h => by
  have h7 := hf.le7
  have hcp := h.cap
  have hmx := h.max
  unfold maxLen at hmx
  have hIH : Hid (∀ m, m < f.length → nx f m = i → onL f m = false → ∀ W, Rd W W.heap.size A f.length c (ints f) → Calls Tryz.prog 164 #[.slice A f.length c, .int .i64 (m : Int)] W (Txt W (treeT f k m))) := Lib.hid (fun m hm e ho W hW => sTree_c hf k m (by omega) hm (by rw [tl_kid hf hi hm e ho]; omega) A c W hW)
  have hb1 := below_new w (Obj.cells #[] 9)
  have hO1 := OwnS.made w w.heap.size #[] (Nat.le_refl _) rfl
  have HT : Hid (treeT f (k + 1) i = [40] ++ (srt ((kids f i).map (treeT f k))).flatten ++ [41]) := Lib.hid (by rw [treeT, join_flat])
  have HK0 : Hid (txs ((kidsK f i 0).map (treeT f k)) = []) := Lib.hid rfl
  have HKN : Hid (kidsK f i f.length = kids f i) := Lib.hid rfl
  have hm9 : ∀ m, (treeT f k m).length ≤ 4782969 := fun m => by have := treeT_len h7 k m; have := nine_le (k := k) (by omega); omega
  have HM := Lib.hid hm9
  clear hm9
  go_enter Tryz.func164, Tryz.ntmps164
  go_wp2_with fail
  generalize w.alloc (Obj.cells #[] 9) = w1 at *
  go_loopw [5, 6] (fun v i9 wr => ∃ m : Nat, m ≤ f.length ∧ i9 = .int .i64 (m : Int) ∧ OwnS wr w.heap.size v (txs ((kidsK f i m).map (treeT f k))) ∧ Below w.heap.size w wr) (fun _ i9 _ => f.length - (intOf i9).toNat)
  case atStart => exact ⟨0, Nat.zero_le _, rfl, by rw [HK0.out]; exact hO1, hb1⟩
  case round =>
   clear hO1 hb1 HK0
   obtain ⟨m, hm, rfl, hO, hbw⟩ := hrel
   have hrd := h.up hbw
   have hz := hbw.size
   by_cases hlt : m < f.length
   · obtain ⟨b, off, hA, hb, hcell⟩ := hrd.at_ hlt
     subst hA
     rw [gI_ints] at hcell
     have hm0 : (0 : Int) ≤ (m : Int) := Int.natCast_nonneg _
     have hm1 : (m : Int) < (f.length : Int) := by omega
     by_cases he : nx f m = i
     · have hq := int_eqb he
       have K1 := sOnLoop_c (some ⟨b, off, none⟩) f.length c (ints f) (m : Int) wr hrd
       rw [tailI_ok hf hlt] at K1
       rcases ho : onL f m with _ | _
       · have hqo : ((tl f m : Int) == 0) = false := by
          rw [beq_eq_false_iff_ne]; unfold onL at ho; intro e; rw [beq_eq_false_iff_ne] at ho; omega
         rw [hqo] at K1
         have HS : Hid (txs ((kidsK f i (m + 1)).map (treeT f k)) = txs ((kidsK f i m).map (treeT f k)) ++ [⟨(treeT f k m).toArray⟩]) := Lib.hid (by rw [kidsK_t he ho, List.map_append, show [m].map (treeT f k) = [treeT f k m] from rfl, txs_app])
         have K2 := hIH.out m hlt he ho
         unfold Txt at K2
         have hlen : (txs ((kidsK f i m).map (treeT f k))).length ≤ 7 := by rw [txs_len, List.length_map]; have := kidsK_len f i m; omega
         generalize txs ((kidsK f i m).map (treeT f k)) = ts at *
         generalize (⟨(treeT f k m).toArray⟩ : ByteArray) = T at *
         have HO := Lib.hid hO
         clear hO he ho hqo hIH
         go_wp2_with fail
         refine K1.mono ?_
         rintro e w3 ⟨rfl, hb3⟩
         have hB3 := bt hbw hb3
         have hO3 := HO.out.up hb3
         have hrd3 := hrd.up hb3
         clear K1 hbw HO hb3 hrd hcell
         go_wp2_with fail
         refine (K2 _ hrd3).mono ?_
         rintro e w4 ⟨rfl, hb4⟩
         have hB4 := bt hB3 hb4
         have hO4 := hO3.up hb4
         have hz4 := hB4.size
         clear hB3 hO3 hb4 hrd3 K2
         have HB4 := Lib.hid hB4
         go_wp2_with (at_builtin; refine app_text w4 T rfl _ _ rfl w.heap.size _ ts rfl hO4 rfl (by omega) (by omega) ?_; intro v' w5 hown5 hb5)
         go_roundw
         case rel => exact ⟨m + 1, by omega, by go_num, by rw [HS.out]; exact hown5, HB4.out.trans hb5⟩
         case measure => simp [intOf]; omega
       · have hqo : ((tl f m : Int) == 0) = true := by
          unfold onL at ho; have := eq_of_beq ho; rw [this]; rfl
         rw [hqo] at K1
         have HS : Hid (kidsK f i (m + 1) = kidsK f i m) := Lib.hid (kidsK_f (fun e => by rw [ho] at e; cases e.2))
         have HO := Lib.hid hO
         clear hO he ho hqo hIH
         go_wp2_with fail
         refine K1.mono ?_
         rintro e w3 ⟨rfl, hb3⟩
         have hB3 := bt hbw hb3
         have hO3 := HO.out.up hb3
         clear K1 hbw HO hb3 hrd hcell
         go_wp2_with fail
         go_roundw
         case rel => exact ⟨m + 1, by omega, by go_num, by rw [HS.out]; exact hO3, hB3⟩
         case measure => simp [intOf]; omega
     · have hq := int_neb he
       have HS : Hid (kidsK f i (m + 1) = kidsK f i m) := Lib.hid (kidsK_f (fun e => he e.1))
       clear he hIH
       go_wp2_with fail
       go_roundw
       case rel => exact ⟨m + 1, by omega, by go_num, by rw [HS.out]; exact hO, hbw⟩
       case measure => simp [intOf]; omega
   · obtain rfl : m = f.length := by omega
     rw [HKN.out] at hO
     have hlen : ((kids f i).map (treeT f k)).length ≤ 7 := by rw [List.length_map]; have := kids_len f i; omega
     have hall : ∀ t ∈ srt ((kids f i).map (treeT f k)), t.length ≤ 4782969 := fun t ht => by
      rw [srt_mem, List.mem_map] at ht
      obtain ⟨x, _, rfl⟩ := ht
      exact HM.out x
     generalize (kids f i).map (treeT f k) = ks at *
     have hsl : (srt ks).length ≤ 7 := by rw [srt_len]; exact hlen
     obtain ⟨A2, c2, rfl, hR2⟩ := hO.slice_
     have K3 := sSorted_c A2 (txs ks).length c2 ks wr hR2 (by rw [txs_len]; omega)
     clear hIH hrd hO
     go_wp2_with fail
     refine K3.mono ?_
     rintro e w3 ⟨v3, rfl, hO3, hb3⟩
     have hB3 := bt hbw hb3
     obtain ⟨A3, c3, rfl, hR3⟩ := hO3.slice_
     generalize srt ks = sl at *
     rw [txs_len] at hR3 ⊢
     have hcap3 := hR3.cap
     clear K3 hbw hb3 hO3 hR2
     go_wp2_with fail
     go_loopw [7, 8] (fun o i9 wr => ∃ q : Nat, q ≤ sl.length ∧ i9 = .int .i64 (q : Int) ∧ o = .string ⟨([40] ++ (sl.take q).flatten).toArray⟩ ∧ wr = w3) (fun _ i9 _ => sl.length - (intOf i9).toNat)
     case atStart => exact ⟨0, Nat.zero_le _, rfl, rfl, rfl⟩
     case round =>
      obtain ⟨q, hq, rfl, rfl, rfl⟩ := hrel
      have hz1 : (⟨([40] ++ (sl.take q).flatten).toArray⟩ : ByteArray).size ≤ 1 + 7 * 4782969 := by
       rw [str_size, List.length_append]
       have := flat_take_len hall hsl q
       simp only [List.length_cons, List.length_nil]
       omega
      by_cases hql : q < sl.length
      · obtain ⟨b, off, hA3, hb, hcell⟩ := hR3.at_ hql
        subst hA3
        rw [gT_txs] at hcell
        have hz2 : (⟨(gX sl q).toArray⟩ : ByteArray).size ≤ 4782969 := by rw [str_size]; exact hall _ (gX_mem hql)
        have HN : Hid ((⟨([40] ++ (sl.take (q + 1)).flatten).toArray⟩ : ByteArray) = ⟨([40] ++ (sl.take q).flatten).toArray⟩ ++ ⟨(gX sl q).toArray⟩) := Lib.hid (by rw [str_app, flat_take hql, List.append_assoc])
        generalize (⟨([40] ++ (sl.take q).flatten).toArray⟩ : ByteArray) = X at *
        generalize (⟨(gX sl q).toArray⟩ : ByteArray) = Y at *
        have hna : ¬ (9223372036854775807 < X.size + Y.size) := by omega
        have hq0 : (0 : Int) ≤ (q : Int) := Int.natCast_nonneg _
        have hq1 : (q : Int) < (sl.length : Int) := by omega
        clear hall
        go_wp2_with fail
        go_roundw
        case rel => exact ⟨q + 1, by omega, by go_num, by rw [HN.out], by first | rfl | trivial⟩
        case measure => simp [intOf]; omega
      · obtain rfl : q = sl.length := by omega
        rw [List.take_of_length_le (Nat.le_refl _)] at hz1 ⊢
        have hst : (⟨([40] ++ sl.flatten).toArray⟩ ++ ⟨#[41]⟩ : ByteArray) = ⟨(treeT f (k + 1) i).toArray⟩ := by
         rw [HT.out]
         exact str_app _ [41]
        generalize (⟨([40] ++ sl.flatten).toArray⟩ : ByteArray) = X at *
        have hna : ¬ (9223372036854775807 < X.size + (⟨#[41]⟩ : ByteArray).size) := by rw [show (⟨#[41]⟩ : ByteArray).size = 1 from rfl]; omega
        have HST := Lib.hid hst
        clear hall hst HT
        go_wp2_with fail
        go_ret
        exact ⟨by rw [HST.out]; rfl, hB3⟩
set_option maxHeartbeats 800000 in
theorem sTreeText_c {f : List Nat} (hf : MapN f) (i : Nat) (hi : i < f.length) (A : Option Addr) (c : Nat) (w : World) (h : Rd w w.heap.size A f.length c (ints f)) :
    Calls Tryz.prog 163 #[.slice A f.length c, .int .i64 (i : Int)] w (Txt w (treeT f f.length i)) := by
 have h7 := hf.le7
 have hs := mapOk_ints hf
 have K1 := sMapOk_b _ _ _ _ _ _ h hs
 have hin : inB (i : Int) 0 ((f.length : Int) - 1) = true := by rw [inB_iff]; omega
 have K2 := l1In_c (i : Int) 0 ((f.length : Int) - 1) w
 rw [hin] at K2
 have K3 := sTree_c hf f.length i h7 hi (by omega) A c w h
 have hw : IntKind.i64.wrap ((f.length : Int) - 1) = (f.length : Int) - 1 := IntWalk.i64_in _ (by omega)
 unfold Txt at K3 ⊢
 go_enter Tryz.func163, Tryz.ntmps163
 go_wp2_with (first
  | (go_at_call 67; with_reducible refine K1.mono ?_; rintro e w' ⟨rfl, rfl⟩)
  | (go_at_call 129; with_reducible refine K2.mono ?_; rintro e w' ⟨rfl, rfl⟩))
 refine K3.mono ?_
 rintro e w3 ⟨rfl, hb3⟩
 go_wp2_with fail
 go_ret
 exact ⟨rfl, hb3⟩
end
section
open Go.RowKit
def rotL (ts : List Tx) (k : Nat) : List Tx := ts.drop k ++ ts.take k
theorem rotL_len {ts : List Tx} {k : Nat} (h : k ≤ ts.length) : (rotL ts k).length = ts.length := by
 unfold rotL; rw [List.length_append, List.length_drop, List.length_take]; omega
theorem rotL_flat (ts : List Tx) (k : Nat) : (rotL ts k).flatten = rot ts k := by
 unfold rotL rot; rw [List.flatten_append, join_flat, join_flat]
theorem rotL_at {ts : List Tx} {k j L : Nat} (hL : ts.length = L) (hk : k < L) (hj : j < L) : gX (rotL ts k) j = gX ts ((k + j) % L) := by
 unfold rotL gX
 simp only [List.getD]
 by_cases h : k + j < L
 · rw [List.getElem?_append_left (by rw [List.length_drop]; omega), List.getElem?_drop, Nat.mod_eq_of_lt h]
 · have e : (k + j) % L = k + j - L := by rw [Nat.mod_eq_sub_mod (by omega), Nat.mod_eq_of_lt (by omega)]
   rw [List.getElem?_append_right (by rw [List.length_drop]; omega), List.length_drop, hL, List.getElem?_take, if_pos (by omega), e, show j - (L - k) = k + j - L by omega]
theorem rotL_mem {ts : List Tx} {k : Nat} {t : Tx} (h : t ∈ rotL ts k) : t ∈ ts := by
 unfold rotL at h
 rw [List.mem_append] at h
 rcases h with h | h
 · exact List.mem_of_mem_drop h
 · exact List.mem_of_mem_take h
def bestK (ts : List Tx) (k : Nat) : Tx := if k = 0 then [] else minK ts k
theorem bestK_one (ts : List Tx) : bestK ts 1 = rot ts 0 := by
 unfold bestK
 rw [if_neg (by omega), minK, minK]
 have e : Lib.join ts [] = rot ts 0 := by unfold rot; rw [List.drop_zero, List.take_zero, Lib.join_nil, List.append_nil]
 split
 · rfl
 · exact e
theorem bestK_lt {ts : List Tx} {k : Nat} (hk : 0 < k) (h : rot ts k < bestK ts k) : bestK ts (k + 1) = rot ts k := by
 unfold bestK at h ⊢
 rw [if_neg (by omega)] at h ⊢
 rw [minK, if_pos h]
theorem bestK_ge {ts : List Tx} {k : Nat} (hk : 0 < k) (h : ¬ rot ts k < bestK ts k) : bestK ts (k + 1) = bestK ts k := by
 unfold bestK at h ⊢
 rw [if_neg (by omega)] at h
 rw [if_neg (by omega), if_neg (by omega), minK, if_neg h]
theorem treeT_ne {f : List Nat} (hf : MapN f) (i : Nat) : treeT f f.length i ≠ [] := by
 have := hf.pos
 obtain ⟨k, hk⟩ : ∃ k, f.length = k + 1 := ⟨f.length - 1, by omega⟩
 rw [hk, treeT]
 simp
set_option maxRecDepth 100000 in
set_option maxHeartbeats 6400000 in
theorem sLoopText_c {f : List Nat} (hf : MapN f) (i : Nat) (hi : i < f.length) (A : Option Addr) (c : Nat) (w : World) (h : Rd w w.heap.size A f.length c (ints f)) :
    Calls Tryz.prog 125 #[.slice A f.length c, .int .i64 (i : Int)] w (Txt w (loopT f i)) := by
 have h7 := hf.le7
 have K1 := sTreeText_c hf i hi A c w h
 have qT : (({ data := (treeT f f.length i).toArray } : ByteArray).toList == []) = false := by
  rw [show ({ data := (treeT f f.length i).toArray } : ByteArray) = bl (treeT f f.length i) from rfl, bl_toList]; exact beqF (treeT_ne hf i)
 have qU : ¬ (({ data := (treeT f f.length i).toArray } : ByteArray).toList = []) := by
  rw [show ({ data := (treeT f f.length i).toArray } : ByteArray) = bl (treeT f f.length i) from rfl, bl_toList]; exact treeT_ne hf i
 have qS : ({ data := (treeT f f.length i).toArray } : ByteArray).toList.isEmpty = false := by
  rcases h9 : ({ data := (treeT f f.length i).toArray } : ByteArray).toList with _ | _
  · exact absurd h9 qU
  · rfl
 unfold Txt at K1
 have hlo := lo_lt hf hi
 have K2 := fun W (hW : Rd W W.heap.size A f.length c (ints f)) => sLoopOf_c A f.length c (ints f) (i : Int) W hW
 have K3 := fun W (hW : Rd W W.heap.size A f.length c (ints f)) => sWayFrom_c A f.length c (ints f) (lo f i : Int) W hW
 unfold Way at K3
 rw [loopI_ok hf hi] at K2
 rw [wayI_ok hf hlo] at K3
 have hL := loopTs_len hf hi
 have hL7 : wl f (lo f i) ≤ 7 := Nat.le_trans (wl_le hf hlo) h7
 have hL1 := (wl_isWay hf hlo).pos
 have hway : (ints (way f (lo f i))).length = wl f (lo f i) := by rw [ints_len, way, orb_len]
 have HG : Hid (∀ j, j < wl f (lo f i) → gI (ints (way f (lo f i))) j = (it f j (lo f i) : Int)) := Lib.hid (fun j hj => by
  rw [gI_ints, nx_get (by rw [way, orb_len]; exact hj)]; simp only [way]; rw [orb_get])
 have HT : Hid (∀ q, q < wl f (lo f i) → gX (loopTs f i) q = treeT f f.length (it f q (lo f i))) := Lib.hid (fun q hq => by unfold gX; simp only [List.getD]; rw [loopTs_at hq]; rfl)
 have HM : Hid (∀ t ∈ loopTs f i, t.length ≤ 4782969) := Lib.hid (fun t ht => loopTs_mem h7 ht)
 have HLT : Hid (loopT f i = bestK (loopTs f i) (wl f (lo f i))) := Lib.hid (by unfold loopT bestK; rw [if_neg (by omega), hL])
 have HTR : Hid (∀ q W, Rd W W.heap.size A f.length c (ints f) → Calls Tryz.prog 164 #[.slice A f.length c, .int .i64 (it f q (lo f i) : Int)] W (Txt W (treeT f f.length (it f q (lo f i))))) := Lib.hid (fun q W hW => sTree_c hf f.length _ h7 (it_lt hf hlo q) (by omega) A c W hW)
 unfold Txt
 generalize (treeT f f.length i).toArray = T1 at *
 go_enter Tryz.func125, Tryz.ntmps125
 go_wp2_with fail
 refine K1.mono ?_
 rintro e w1 ⟨rfl, hb1⟩
 have h1 := h.up hb1
 clear K1
 go_wp2_with fail
 refine (K2 _ h1).mono ?_
 rintro e w2 ⟨rfl, hb2⟩
 have h2 := h1.up hb2
 have hB2 := bt hb1 hb2
 clear K2 h1 hb1 hb2
 go_wp2_with fail
 refine (K3 _ h2).mono ?_
 rintro e w3 ⟨v3, rfl, hO3, hb3⟩
 have h3 := h2.up hb3
 have hB3 := bt hB2 hb3
 obtain ⟨A3, c3, rfl, hO4⟩ := hO3.form
 have hR3 := hO4.rd
 rw [hway] at hR3 ⊢
 generalize ints (way f (lo f i)) = wy at *
 generalize it f = itf at *
 generalize loopTs f i = ts at *
 generalize wl f (lo f i) = L at *
 generalize lo f i = l0 at *
 have hcap3 := hR3.cap
 clear K3 h2 hB2 hb3 hO3 hO4 qT qU qS hway
 go_wp2_with fail
 go_loopw [6, 7] (fun bb i9 wr => ∃ k : Nat, k ≤ L ∧ i9 = .int .i64 (k : Int) ∧ bb = .string ⟨(bestK ts k).toArray⟩ ∧ Below w3.heap.size w3 wr) (fun _ i9 _ => L - (intOf i9).toNat)
 case atStart => exact ⟨0, Nat.zero_le _, rfl, rfl, Below.refl _ _⟩
 case round =>
  obtain ⟨k, hk, rfl, rfl, hbw⟩ := hrel
  by_cases hlt : k < L
  · have hk1 : (k : Int) < (L : Int) := by omega
    have HB := Lib.hid hbw
    clear hbw
    go_wp2_with fail
    go_loopw [8, 9] (fun s i9 wr => ∃ j : Nat, j ≤ L ∧ i9 = .int .i64 (j : Int) ∧ s = .string ⟨((rotL ts k).take j).flatten.toArray⟩ ∧ Below w3.heap.size w3 wr) (fun _ i9 _ => L - (intOf i9).toNat)
    case atStart => exact ⟨0, Nat.zero_le _, rfl, rfl, HB.out⟩
    case round =>
     clear HB
     obtain ⟨j, hj, rfl, rfl, hbw⟩ := hrel
     have hz1 : (⟨((rotL ts k).take j).flatten.toArray⟩ : ByteArray).size ≤ 7 * 4782969 := by
      rw [str_size]
      exact flat_take_len (fun t ht => HM.out t (rotL_mem ht)) (by rw [rotL_len (by omega)]; omega) j
     have hrd := h3.up hbw
     have hR := hR3.up hbw
     by_cases hlj : j < L
     · obtain ⟨q, hq⟩ : ∃ q : Nat, (k + j) % L = q := ⟨_, rfl⟩
       have hqL : q < L := by rw [← hq]; exact Nat.mod_lt _ (by omega)
       have hqi : ((k : Int) + (j : Int)) % (L : Int) = (q : Int) := by rw [← hq, Int.natCast_emod, Int.natCast_add]
       have hqt : ((k : Int) + (j : Int)).tmod (L : Int) = (q : Int) := by rw [Int.tmod_eq_emod_of_nonneg (by omega)]; exact hqi
       have hwk : IntKind.i64.wrap ((k : Int) + (j : Int)) = (k : Int) + (j : Int) := IntWalk.i64_in _ (by omega)
       have hL0 : ¬ (L : Int) = 0 := by omega
       have hL0q : ((L : Int) == 0) = false := by rw [beq_eq_false_iff_ne]; exact hL0
       obtain ⟨b, off, hA3, hb, hcell⟩ := hR.at_ hqL
       subst hA3
       rw [HG.out q hqL] at hcell
       have K5 := HTR.out q wr hrd
       unfold Txt at K5
       have hgx : gX (rotL ts k) j = treeT f f.length (itf q l0) := by rw [rotL_at hL hlt hlj, hq, HT.out q hqL]
       have hz2 : (⟨(treeT f f.length (itf q l0)).toArray⟩ : ByteArray).size ≤ 4782969 := by
        rw [str_size, ← HT.out q hqL]
        exact HM.out _ (gX_mem (by omega))
       have HN : Hid ((⟨((rotL ts k).take (j + 1)).flatten.toArray⟩ : ByteArray) = ⟨((rotL ts k).take j).flatten.toArray⟩ ++ ⟨(treeT f f.length (itf q l0)).toArray⟩) := Lib.hid (by rw [str_app, ← hgx, flat_take (by rw [rotL_len (by omega)]; omega)])
       generalize (⟨((rotL ts k).take j).flatten.toArray⟩ : ByteArray) = X at *
       generalize (⟨(treeT f f.length (itf q l0)).toArray⟩ : ByteArray) = Y at *
       have hna : ¬ (9223372036854775807 < X.size + Y.size) := by omega
       have hq0 : (0 : Int) ≤ (q : Int) := Int.natCast_nonneg _
       have hq1 : (q : Int) < (L : Int) := by omega
       have hj1 : (j : Int) < (L : Int) := by omega
       clear hgx hq HT HTR HM
       go_wp2_with fail
       refine K5.mono ?_
       rintro e w5 ⟨rfl, hb5⟩
       have hB5 := bt hbw hb5
       clear K5 hb5 hbw hrd hR hcell
       go_wp2_with fail
       go_roundw
       case rel => exact ⟨j + 1, by omega, by go_num, by rw [HN.out], hB5⟩
       case measure => simp [intOf]; omega
     · obtain rfl : j = L := by omega
       have hj1 : ¬ (j : Int) < (j : Int) := by omega
       have HR : Hid (((rotL ts k).take j).flatten = rot ts k) := Lib.hid (by rw [List.take_of_length_le (by rw [rotL_len (by omega)]; omega), rotL_flat])
       rw [HR.out] at hz1 ⊢
       by_cases hk0 : k = 0
       · have hk0i : ((k : Int) == 0) = true := by rw [hk0]; rfl
         have HN : Hid (bestK ts (k + 1) = rot ts k) := Lib.hid (by rw [hk0]; exact bestK_one ts)
         clear hk0
         generalize rot ts k = X at *
         go_wp2_with fail
         go_roundw
         case rel => exact ⟨k + 1, by omega, by go_num, by rw [HN.out], hbw⟩
         case measure => simp [intOf]; omega
       · have hk0i : ((k : Int) == 0) = false := by rw [beq_eq_false_iff_ne]; omega
         have hle := less_dec (rot ts k) (bestK ts k)
         by_cases hl : rot ts k < bestK ts k
         · rw [decide_eq_true hl] at hle
           have HN : Hid (bestK ts (k + 1) = rot ts k) := Lib.hid (bestK_lt (by omega) hl)
           clear hl
           generalize rot ts k = X at *
           generalize bestK ts k = Y at *
           go_wp2_with fail
           go_roundw
           case rel => exact ⟨k + 1, by omega, by go_num, by rw [HN.out], hbw⟩
           case measure => simp [intOf]; omega
         · rw [decide_eq_false hl] at hle
           have HN : Hid (bestK ts (k + 1) = bestK ts k) := Lib.hid (bestK_ge (by omega) hl)
           clear hl
           generalize rot ts k = X at *
           have HBK : Hid (∃ Y, bestK ts k = Y) := Lib.hid ⟨_, rfl⟩
           go_wp2_with fail
           go_roundw
           case rel => exact ⟨k + 1, by omega, by go_num, by rw [HN.out], hbw⟩
           case measure => simp [intOf]; omega
  · obtain rfl : k = L := by omega
    have hk1 : ¬ (k : Int) < (k : Int) := by omega
    have HB : Hid (Below w.heap.size w wr) := Lib.hid (bt hB3 hbw)
    go_wp2_with fail
    go_ret
    exact ⟨by rw [HLT.out]; rfl, HB.out⟩
theorem joinK {sl : List Tx} {q : Nat} {sep : Tx} (hq : q < sl.length) : Lib.join (sl.take (q + 1)) sep = if q = 0 then gX sl q else Lib.join (sl.take q) sep ++ sep ++ gX sl q := by
 cases sl with
 | nil => simp at hq
 | cons x r =>
  cases q with
  | zero => rw [if_pos rfl, List.take_succ_cons, List.take_zero, Lib.join_one]; rfl
  | succ q =>
   rw [if_neg (by omega), List.take_succ_cons, Lib.join_cons, List.take_succ_cons, Lib.join_cons]
   have hr : r[q]? = some (gX (x :: r) (q + 1)) := by
    have hq' : q < r.length := by simpa using hq
    rw [List.getElem?_eq_getElem hq']
    unfold gX
    simp [List.getD, hq']
   rw [Lib.joinTail_take_succ _ _ _ _ hr]
   simp only [List.append_assoc]
theorem mem_take_len {ts : List Tx} {M k : Nat} (h : ∀ t ∈ ts, t.length ≤ M) (hl : ts.length ≤ 7) : (Lib.join (ts.take k) [43]).length ≤ 7 * M + 7 :=
 joinP_len (fun t ht => h t (List.mem_of_mem_take ht)) (by rw [List.length_take]; omega)
theorem OwnRR.kp {w w' : World} {B : Nat} {v : Value} {xss : List (List Int)} (h : OwnRR w B v xss) (hk : ∀ k, B ≤ k → k < w.heap.size → w'.heap[k]? = w.heap[k]?) (hs : w.heap.size ≤ w'.heap.size) : OwnRR w' B v xss := by
 obtain ⟨vs, hv, hr⟩ := h
 refine ⟨vs, ⟨hv.1, hv.2.elim .inl fun ⟨g, cap, cur, e', hg, hh, r⟩ => .inr ⟨g, cap, cur, e', hg, by rw [hk g hg (Array.getElem?_eq_some_iff.1 hh).1]; exact hh, r⟩⟩, fun j hj => ?_⟩
 obtain ⟨A, n, c, e, hO⟩ := hr j hj
 exact ⟨A, n, c, e, (hO.keep (fun k h1 _ h3 => hk k h1 h3)).wide (Nat.le_refl _) hs⟩
theorem app_text_at {ops : Array Oper} {rest : List Oper} {o : Oper} {a : Act} {Q : Exit → Act → World → Prop} (w : World) (y : ByteArray) (hgd : o.guard = none) (s x : Operand)
    (ho : o.op = .call { callee := .builtin .append, args := #[s, x], argTypes := #[34, 34] })
    (B : Nat) (v : Value) (ts : List ByteArray) (hs : a.eval s = v) (hown : OwnS w B v ts) (hx : a.eval x = .slice (some ⟨w.heap.size, 0, none⟩) 1 1)
    (hlen : ts.length ≤ 1000000000000) (hB : B ≤ w.heap.size)
    (h : ∀ v' w', OwnS w' B v' (ts ++ [y]) → Below B w w' → (∀ k, k < w.heap.size → v.ownBlock ≠ some k → w'.heap[k]? = w.heap[k]?) → (v'.ownBlock = v.ownBlock ∨ v'.ownBlock = some (w.heap.size + 1)) → w.heap.size ≤ w'.heap.size → wpList Tryz.prog ops Q rest (a.put o.dst v') w') :
    wpList Tryz.prog ops Q (o :: rest) a (w.alloc (.cells #[.string y] 9)) := by
 obtain ⟨i0, hi, hz0, hz1, hz2⟩ := info_parts text_info
 refine wpList_append_own_at _ hgd s x 34 ho B 9 i0 (.string ⟨#[]⟩) 1 16 Tryz.underlying34 hi hz0 hz1 hz2 rfl (by decide) v ts.length (ts.map Value.string) hs (hown.alloc _) ⟨w.heap.size, 0, none⟩ 1 1 [.string y] hx rfl (cell_one_new _ _ _) (by simp [Value.oneCell']) (by unfold maxLen; omega) (by omega) (by simp; omega) ?_
 intro v' w' hown' hg _ hat
 have hsz := hg.size
 rw [World.size_alloc] at hsz hat
 refine h v' w' ?_ ?_ ?_ hat (by omega)
 · unfold OwnS
   rw [List.length_append, List.map_append]
   exact hown'
 · refine ((Below.refl B w).alloc hB _).grown hg (by simp; omega) (fun k hk => (hown.lt k hk).1)
 · intro k hk hne
   rw [hg.block k (by rw [World.size_alloc]; omega) (fun e => hne e.symm)]
   exact heap_alloc_old w _ hk
set_option maxRecDepth 100000 in
set_option maxHeartbeats 6400000 in
theorem sShapeText_c {f : List Nat} (hf : MapN f) (A : Option Addr) (c : Nat) (w : World) (h : Rd w w.heap.size A f.length c (ints f)) :
    Calls Tryz.prog 56 #[.slice A f.length c] w (Txt w (shapeT f)) := by
 have h7 := hf.le7
 have hb1 := below_new w (Obj.cells #[] 9)
 have hO1 := OwnS.made w w.heap.size #[] (Nat.le_refl _) rfl
 have K2 := sLoopsOf_c A f.length c (ints f) _ (h.up hb1)
 unfold Rows at K2
 rw [loopsI_ok hf] at K2
 have hll : (loopsN f).length = (repsN f f.length).length := by unfold loopsN; rw [loops_rows, List.length_map]
 have hrl := reps_len f f.length
 have HAT : Hid (∀ m, m < (repsN f f.length).length → ∃ r, (repsN f f.length)[m]? = some r ∧ r < f.length ∧ gR (loopsN f) m = ints (way f r)) := Lib.hid (fun m hm => loops_at hf hm)
 have HLEN : Hid (∀ t ∈ srt ((repsN f f.length).map (loopT f)), t.length ≤ 14 * 4782969) := Lib.hid (fun t ht => by
  rw [srt_mem, List.mem_map] at ht
  obtain ⟨x, hx, rfl⟩ := ht
  unfold repsN at hx
  rw [List.mem_filter, List.mem_range] at hx
  exact loopT_len hf hx.1)
 have HST : Hid (shapeT f = Lib.join (srt ((repsN f f.length).map (loopT f))) [43]) := Lib.hid rfl
 have HLT : Hid (∀ r, r < f.length → ∀ W, Rd W W.heap.size A f.length c (ints f) → Calls Tryz.prog 125 #[.slice A f.length c, .int .i64 (r : Int)] W (Txt W (loopT f r))) := Lib.hid (fun r hr W hW => sLoopText_c hf r hr A c W hW)
 have HW : Hid (∀ r, r < f.length → 0 < (way f r).length ∧ nx (way f r) 0 = r) := Lib.hid (fun r hr => by
  have h1 := (wl_isWay hf hr).pos
  refine ⟨by rw [way, orb_len]; exact h1, ?_⟩
  rw [nx_get (by rw [way, orb_len]; exact h1)]
  simp only [way]; rw [orb_get]; rfl)
 go_enter Tryz.func56, Tryz.ntmps56
 go_wp2_with fail
 refine K2.mono ?_
 rintro e w2 ⟨v2, rfl, hO2, hb2⟩
 have hB2 := bt hb1 hb2
 have hS2 := hO1.up hb2
 obtain ⟨A2, c2, rfl, hR2⟩ := hO2.form
 rw [hll] at hR2
 have hz1w : (w.alloc (Obj.cells #[] 9)).heap.size = w.heap.size + 1 := by simp
 have hO2' := hO2
 rw [hz1w] at hO2'
 have HO2 := Lib.hid hO2'
 have hq0 : ∀ q, (Value.slice (some ⟨w.heap.size, 0, none⟩) 0 0).ownBlock = some q → q = w.heap.size ∨ w2.heap.size ≤ q := fun q hq => by cases hq; exact .inl rfl
 clear hO2'
 generalize (loopsN f) = rows at *
 generalize repsN f f.length = reps at *
 rw [hll]
 have hcap2 := hR2.cap
 have hz2 := hB2.size
 obtain ⟨N, hN⟩ : ∃ N, reps.length = N := ⟨_, rfl⟩
 rw [hll, hN] at HO2
 rw [hN] at hR2 hcap2 hrl HAT ⊢
 clear K2 hb1 hb2 hO1 hO2
 go_wp2_with fail
 go_loopw [3, 5] (fun v i9 wr => ∃ k : Nat, k ≤ N ∧ i9 = .int .i64 (k : Int) ∧ OwnS wr w.heap.size v (txs ((reps.take k).map (loopT f))) ∧ (∀ q, v.ownBlock = some q → q = w.heap.size ∨ w2.heap.size ≤ q) ∧ (∀ k, w.heap.size + 1 ≤ k → k < w2.heap.size → wr.heap[k]? = w2.heap[k]?) ∧ w2.heap.size ≤ wr.heap.size ∧ Below w.heap.size w wr) (fun _ i9 _ => N - (intOf i9).toNat)
 case atStart => exact ⟨0, Nat.zero_le _, rfl, hS2, hq0, fun _ _ _ => rfl, Nat.le_refl _, hB2⟩
 case round =>
  clear hS2 hq0
  obtain ⟨k, hk, rfl, hO, hqb, hkp, hz2w, hBw⟩ := hrel
  have hrd := h.up hBw
  have hz := hBw.size
  by_cases hlt : k < N
  · obtain ⟨r, hr, hrf, hrow⟩ := HAT.out k hlt
    obtain ⟨hw0, hw1⟩ := HW.out r hrf
    obtain ⟨A9, c9, e9, hR9⟩ := (HO2.out.kp hkp hz2w).form
    rw [hll, hN] at e9 hR9
    cases e9
    obtain ⟨b, off, A', n', c', hA2, hb, hcell, hRk⟩ := hR9.at_ hlt
    subst hA2
    rw [hrow] at hRk
    have hn' : (way f r).length = n' := by rw [← hRk.len, ints_len]
    obtain ⟨b', off', hA', hb', hcell'⟩ := hRk.at_ (show 0 < n' by omega)
    subst hA'
    rw [gI_ints, hw1, Nat.add_zero] at hcell'
    have K4 := HLT.out r hrf wr hrd
    unfold Txt at K4
    have HN : Hid (txs ((reps.take (k + 1)).map (loopT f)) = txs ((reps.take k).map (loopT f)) ++ [⟨(loopT f r).toArray⟩]) := Lib.hid (by
     rw [List.take_add_one, hr, List.map_append, show (some r).toList.map (loopT f) = [loopT f r] from rfl, txs_app])
    have hlen : (txs ((reps.take k).map (loopT f))).length ≤ 7 := by rw [txs_len, List.length_map, List.length_take]; omega
    generalize txs ((reps.take k).map (loopT f)) = ts at *
    generalize (⟨(loopT f r).toArray⟩ : ByteArray) = T at *
    have hk0 : (0 : Int) ≤ (k : Int) := Int.natCast_nonneg _
    have hk1 : (k : Int) < (N : Int) := by omega
    have hn1 : (0 : Int) < (n' : Int) := by omega
    have HO := Lib.hid hO
    clear hO hr hrow hw1 HAT HW HLT HLEN
    go_wp2_with fail
    refine K4.mono ?_
    rintro e w4 ⟨rfl, hb4⟩
    have hO4 := HO.out.up hb4
    have hz4 := hb4.size
    have HB4 := Lib.hid (bt hBw hb4)
    have HKP : Hid (∀ k, w.heap.size + 1 ≤ k → k < w2.heap.size → w4.heap[k]? = w2.heap[k]?) := Lib.hid (fun k h1 h2 => (hb4.block k (by omega)).trans (hkp k h1 h2))
    have HQB := Lib.hid hqb
    clear K4 hb4 hcell hcell' hRk hR9 HO hBw hkp hqb
    go_wp2_with (at_builtin; refine app_text_at w4 T rfl _ _ rfl w.heap.size _ ts rfl hO4 rfl (by omega) (by omega) ?_; intro v' w5 hown5 hb5 hkp5 hat5 hz5)
    go_roundw
    case rel => exact ⟨k + 1, by omega, by go_num, by rw [HN.out]; exact hown5, fun q e => (by rcases hat5 with h9 | h9; (rw [h9] at e; exact HQB.out q e); (rw [h9] at e; cases e; right; omega)), fun k h1 h2 => (hkp5 k (by omega) (fun e => by have := HQB.out k e; omega)).trans (HKP.out k h1 h2), by omega, HB4.out.trans hb5⟩
    case measure => simp [intOf]; omega
  · obtain rfl : k = N := by omega
    rw [List.take_of_length_le (by omega)] at hO
    have hlen : (reps.map (loopT f)).length ≤ 7 := by rw [List.length_map]; omega
    generalize reps.map (loopT f) = ks at *
    have hsl : (srt ks).length ≤ 7 := by rw [srt_len]; exact hlen
    obtain ⟨A3, c3, rfl, hR3⟩ := hO.slice_
    have K3 := sSorted_c A3 (txs ks).length c3 ks wr hR3 (by rw [txs_len]; omega)
    have hk1 : ¬ (k : Int) < (k : Int) := by omega
    clear hO hrd HAT HW HLT
    go_wp2_with fail
    refine K3.mono ?_
    rintro e w3 ⟨v3, rfl, hO3, hb3⟩
    have hB3 := bt hBw hb3
    obtain ⟨A4, c4, rfl, hR4⟩ := hO3.slice_
    generalize srt ks = sl at *
    rw [txs_len] at hR4 ⊢
    have hcap4 := hR4.cap
    clear K3 hBw hb3 hO3 hR3
    go_wp2_with fail
    go_loopw [6, 7] (fun o i9 wr => ∃ q : Nat, q ≤ sl.length ∧ i9 = .int .i64 (q : Int) ∧ o = .string ⟨(Lib.join (sl.take q) [43]).toArray⟩ ∧ wr = w3) (fun _ i9 _ => sl.length - (intOf i9).toNat)
    case atStart => exact ⟨0, Nat.zero_le _, rfl, rfl, rfl⟩
    case round =>
     obtain ⟨q, hq, rfl, rfl, rfl⟩ := hrel
     have hz1 : (⟨(Lib.join (sl.take q) [43]).toArray⟩ : ByteArray).size ≤ 7 * (14 * 4782969) + 7 := by
      rw [str_size]; exact mem_take_len HLEN.out hsl
     by_cases hql : q < sl.length
     · obtain ⟨b, off, hA4, hb, hcell⟩ := hR4.at_ hql
       subst hA4
       rw [gT_txs] at hcell
       have hz2 : (⟨(gX sl q).toArray⟩ : ByteArray).size ≤ 14 * 4782969 := by rw [str_size]; exact HLEN.out _ (gX_mem hql)
       have hj := joinK (sep := [43]) hql
       have hq0 : (0 : Int) ≤ (q : Int) := Int.natCast_nonneg _
       have hq1 : (q : Int) < (sl.length : Int) := by omega
       by_cases hq9 : q = 0
       · rw [if_pos hq9] at hj
         have hqd : ((0 : Int) < (q : Int)) = False := eq_false (by omega)
         have hqe : (0 < q) = False := eq_false (by omega)
         have HN : Hid ((⟨(Lib.join (sl.take (q + 1)) [43]).toArray⟩ : ByteArray) = ⟨(Lib.join (sl.take q) [43]).toArray⟩ ++ ⟨(gX sl q).toArray⟩) := Lib.hid (by rw [str_app, hj, hq9, List.take_zero, Lib.join_nil]; rfl)
         generalize (⟨(Lib.join (sl.take q) [43]).toArray⟩ : ByteArray) = X at *
         generalize (⟨(gX sl q).toArray⟩ : ByteArray) = Y at *
         have hna : ¬ (9223372036854775807 < X.size + Y.size) := by omega
         clear hj HLEN hq9
         go_wp2_with fail
         go_roundw
         case rel => exact ⟨q + 1, by omega, by go_num, by rw [HN.out], by first | rfl | trivial⟩
         case measure => simp [intOf]; omega
       · rw [if_neg hq9] at hj
         have hqp : (0 : Int) < (q : Int) := by omega
         have HN : Hid ((⟨(Lib.join (sl.take (q + 1)) [43]).toArray⟩ : ByteArray) = ⟨(Lib.join (sl.take q) [43]).toArray⟩ ++ ⟨#[43]⟩ ++ ⟨(gX sl q).toArray⟩) := Lib.hid (by rw [hj, show (⟨#[43]⟩ : ByteArray) = ⟨([43] : Tx).toArray⟩ from rfl, str_app, str_app])
         generalize (⟨(Lib.join (sl.take q) [43]).toArray⟩ : ByteArray) = X at *
         generalize (⟨(gX sl q).toArray⟩ : ByteArray) = Y at *
         have hna : ¬ (9223372036854775807 < X.size + (⟨#[43]⟩ : ByteArray).size) := by rw [show (⟨#[43]⟩ : ByteArray).size = 1 from rfl]; omega
         have hnb : ¬ (9223372036854775807 < (X ++ ⟨#[43]⟩).size + Y.size) := by rw [ByteArray.size_append, show (⟨#[43]⟩ : ByteArray).size = 1 from rfl]; omega
         have hnc : ¬ (9223372036854775807 < X.size + 1 + Y.size) := by omega
         clear hj HLEN
         go_wp2_with fail
         go_roundw
         case rel => exact ⟨q + 1, by omega, by go_num, by rw [HN.out], by first | rfl | trivial⟩
         case measure => simp [intOf]; omega
     · obtain rfl : q = sl.length := by omega
       have hq1 : ¬ (sl.length : Int) < (sl.length : Int) := by omega
       rw [List.take_of_length_le (Nat.le_refl _)]
       go_wp2_with fail
       go_ret
       exact ⟨by rw [HST.out]; rfl, hB3⟩
end
end Go.Proofs.YtoinlkdmfclnbaaGreatDoor
