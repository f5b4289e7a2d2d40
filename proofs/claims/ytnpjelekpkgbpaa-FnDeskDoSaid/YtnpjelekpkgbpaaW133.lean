/- Walk: selfMap.from as an iterator over things of which the round knows what they are. -/
import Derived.Test.YtnpjelekpkgbpaaV8
import Derived.Test.YtnpjelekpkgbpaaM23
namespace Go.Proofs.Ytnpjelekpkgbpaa
set_option linter.unusedVariables false
open Go.RowKit Go.Shelf
attribute [local go_sem] Oper.semAt_some

/-- the things of a map that are led to i -/
abbrev Led (f : List Nat) (i : Nat) := { x : Nat // x < f.length ∧ nx f x = i }
def encL {f : List Nat} {i : Nat} (x : Led f i) : Array Value := #[Value.int .i64 (x.1 : Int)]
def froP (f : List Nat) (i : Nat) : Nat → List (Led f i)
  | 0 => []
  | k + 1 => if h : k < f.length ∧ nx f k = i then froP f i k ++ [⟨k, h⟩] else froP f i k
theorem froP_len (f : List Nat) (i : Nat) : ∀ k, (froP f i k).length ≤ k
  | 0 => Nat.le_refl _
  | k + 1 => by
    have := froP_len f i k
    unfold froP; split
    · rw [List.length_append]; simp; omega
    · omega
theorem froP_t {f : List Nat} {i k : Nat} (h : k < f.length ∧ nx f k = i) : froP f i (k + 1) = froP f i k ++ [⟨k, h⟩] := by rw [froP, dif_pos h]
theorem froP_f {f : List Nat} {i k : Nat} (h : ¬ nx f k = i) : froP f i (k + 1) = froP f i k := by rw [froP, dif_neg (fun h' => h h'.2)]
/-- the texts of those that are not on a loop -/
def kidT (f : List Nat) (i k : Nat) (pre : List (Led f i)) : List Tx := (pre.filter (fun x => !onL f x.1)).map (fun x => treeT f k x.1)
theorem kidT_all (f : List Nat) (i k : Nat) : ∀ m, m ≤ f.length → kidT f i k (froP f i m) = (kidsK f i m).map (treeT f k)
  | 0, _ => rfl
  | m + 1, hm => by
    have ih := kidT_all f i k m (by omega)
    unfold kidsK at ih ⊢
    rw [List.range_succ, List.filter_append, List.map_append, ← ih]
    by_cases h : nx f m = i
    · rw [froP_t ⟨by omega, h⟩]
      unfold kidT
      rw [List.filter_append, List.map_append]
      congr 1
      rcases ho : onL f m with _ | _ <;> simp [ho, h]
    · rw [froP_f h]
      simp [h]
theorem kidT_snoc (f : List Nat) (i k : Nat) (pre : List (Led f i)) (x : Led f i) : kidT f i k (pre ++ [x]) = if onL f x.1 then kidT f i k pre else kidT f i k pre ++ [treeT f k x.1] := by
  unfold kidT
  rw [List.filter_append, List.map_append]
  rcases ho : onL f x.1 with _ | _ <;> simp [ho]
/-- What a round keeps: what lay below n₀, and the iterator's own two boxes. -/
def KpB (n₀ Bm Bt : Nat) (W W' : World) : Prop := Below n₀ W W' ∧ W'.heap[Bm]? = W.heap[Bm]? ∧ W'.heap[Bt]? = W.heap[Bt]?
theorem KpB.refl (n₀ Bm Bt : Nat) (W : World) : KpB n₀ Bm Bt W W := ⟨Below.refl _ _, rfl, rfl⟩
theorem KpB.trans {n₀ Bm Bt : Nat} {X Y Z : World} (h : KpB n₀ Bm Bt X Y) (k : KpB n₀ Bm Bt Y Z) : KpB n₀ Bm Bt X Z := ⟨h.1.trans k.1, k.2.1.trans h.2.1, k.2.2.trans h.2.2⟩
theorem kpB_b {n₀ Bm Bt S : Nat} (hn : n₀ ≤ S) (hm : Bm < S) (ht : Bt < S) : ∀ (W : World) (l : Nat) (o o' : Obj), S ≤ l → W.heap[l]? = some o → o.isCells = false → o.isWalk = false → KpB n₀ Bm Bt W (W.putObj l o') :=
  fun W l o o' hl h1 h2 h3 => ⟨(Below.refl n₀ W).grown (grownBy_putObj' W l o') (by have := (Array.getElem?_eq_some_iff.1 h1).1; omega) (fun k e => by cases e; omega), World.putObj_heap_other (by omega), World.putObj_heap_other (by omega)⟩
def SeqL (f : List Nat) (i : Nat) (g : Nat) (lb : Array Value) (n₀ Bm Bt : Nat) (w : World) : Prop :=
  SeqStopsK Fence.wide 3 Try.prog g lb (encL (f := f) (i := i)) (KpB n₀ Bm Bt) (fun ys => ys = froP f i f.length) (fun _ => True) 100 w
set_option maxRecDepth 100000 in
set_option maxHeartbeats 2000000 in
theorem fromL_in (l Bm Bt n₀ : Nat) (A : Option Addr) (c : Nat) (f : List Nat) (i : Nat) (hn : f.length ≤ 100) (J Jx : List (Led f i) → World → Prop) (W : World) (hr : Rd W n₀ A f.length c (ints f))
    (hY : ∀ pre x W, J pre W → pre.length < 100 → YieldAt Fence.wide 2 Try.prog l (encL x) W fun e W' =>
      (e = .returned (.bool true) ∧ J (pre ++ [x]) W' ∧ KpB n₀ Bm Bt W W') ∨ (e = .returned (.bool false) ∧ Jx (pre ++ [x]) W'))
    (hm : W.cell? ⟨Bm, 0, none⟩ = some (.slice A f.length c)) (ht : W.cell? ⟨Bt, 0, none⟩ = some (.int .i64 (i : Int))) (h0 : J [] W) :
    CallsIn Fence.wide 3 Try.prog 111 #[.func (.yield l) #[] #[], .pointer (some ⟨Bm, 0, none⟩), .pointer (some ⟨Bt, 0, none⟩)] W fun e W' => (∃ v, e = .returned v) ∧
      ((∃ ys, ys = froP f i f.length ∧ J ys W') ∨ (∃ pre, True ∧ Jx pre W')) := by
  have hcp := hr.cap
  have hmx := hr.max
  unfold maxLen at hmx
  refine callsIn_of_wp Try.func111 rfl trivial ?_ rfl
  simp only [Try.ntmps111, List.size_toArray, List.length_cons, List.length_nil, Nat.reduceAdd, Nat.reduceSub, Array.replicate_succ, Array.replicate_zero, List.push_toArray, List.append_toArray, List.nil_append, List.cons_append]
  gi_wp2
  gi_loopw [8] (fun i' wr => ∃ k : Nat, k ≤ f.length ∧ i' = .int .i64 k ∧ J (froP f i k) wr ∧ KpB n₀ Bm Bt W wr) (fun i' _ => f.length - (intOf i').toNat)
  case atStart => exact ⟨0, Nat.zero_le _, rfl, h0, KpB.refl _ _ _ _⟩
  case round =>
    obtain ⟨k, hk, rfl, hJ, hb⟩ := hrel
    have ht2 := (World.cell?_of_block (w := W) (a := ⟨Bt, 0, none⟩) hb.2.2).trans ht
    clear ht hm
    by_cases hlt : k < f.length
    · obtain ⟨b, off, rfl, hbb, hcell⟩ := (hr.below hb.1).at_ hlt
      rw [gI_ints] at hcell
      have hfl := froP_len f i k
      by_cases he : nx f k = i
      · obtain ⟨x, hx, hT⟩ : ∃ x : Led f i, x.1 = k ∧ froP f i (k + 1) = froP f i k ++ [x] := ⟨⟨k, hlt, he⟩, rfl, froP_t ⟨hlt, he⟩⟩
        have HT := Lib.hid hT
        have hq : ((nx f k : Int) == (i : Int)) = true := by rw [he]; simp
        obtain ⟨fn, tmps, assign, body, hy, hR⟩ := hY _ x wr hJ (by omega)
        have HE := Lib.hid he
        dsimp only [encL] at hy
        rw [hx] at hy
        clear he hx hT
        gi_wp2
        refine hR.mono ?_
        rintro e W3 (⟨rfl, hJ3, hk3⟩ | ⟨rfl, hJx3⟩)
        · gi_wp2
          go_roundw
          case rel => exact ⟨k + 1, by omega, by simp, by rw [HT.out]; exact hJ3, hb.trans hk3⟩
          case measure => simp [intOf]; omega
        · gi_wp2
          refine bodyPost_ret (results_none rfl _ _ _) rfl ?_
          exact ⟨⟨_, rfl⟩, .inr ⟨_, trivial, hJx3⟩⟩
      · have HT := Lib.hid (froP_f he)
        have hq : ((nx f k : Int) == (i : Int)) = false := by rw [beq_eq_false_iff_ne]; omega
        have HE := Lib.hid he
        clear he
        gi_wp2
        refine ⟨fun _ h => (by cases h), ?_⟩
        gi_wp2
        go_roundw
        case rel => exact ⟨k + 1, by omega, by simp, by rw [HT.out]; exact hJ, hb⟩
        case measure => simp [intOf]; omega
    · obtain rfl : k = f.length := by omega
      gi_wp2
      go_end0
      exact ⟨⟨_, rfl⟩, .inl ⟨_, rfl, hJ⟩⟩
theorem fromL_seq (A : Option Addr) (c : Nat) (f : List Nat) (i : Nat) (n₀ : Nat) (w : World) (h : Rd w n₀ A f.length c (ints f)) (hn : f.length ≤ 100) (hn0 : n₀ ≤ w.heap.size) :
    SeqL f i 111 #[.pointer (some ⟨w.heap.size, 0, none⟩), .pointer (some ⟨w.heap.size + 1, 0, none⟩)] n₀ w.heap.size (w.heap.size + 1) ((w.alloc (.cells #[.slice A f.length c] 88)).alloc (.cells #[.int .i64 (i : Int)] 3)) := by
  have bM := Boxed.new w 88 (.slice A f.length c)
  have bM2 := bM.alloc (.cells #[.int .i64 (i : Int)] 3)
  have bT := Boxed.new (w.alloc (.cells #[.slice A f.length c] 88)) 3 (.int .i64 (i : Int))
  rw [World.size_alloc] at bT
  have hb : Below n₀ w ((w.alloc (.cells #[.slice A f.length c] 88)).alloc (.cells #[.int .i64 (i : Int)] 3)) := ((Below.refl _ w).alloc hn0 _).alloc (by simp; omega) _
  have hr := h.below hb
  have hlt := bT.lt
  intro l J Jx W hW _ _ hY h0
  exact fromL_in l w.heap.size (w.heap.size + 1) _ A c f i hn J Jx W (hr.below (hW.mono (by simp; omega))) hY ((hW.cell (p := ⟨w.heap.size, 0, none⟩) bM2.lt).trans bM2.cell) ((hW.cell (p := ⟨w.heap.size + 1, 0, none⟩) hlt).trans bT.cell) h0
end Go.Proofs.Ytnpjelekpkgbpaa
