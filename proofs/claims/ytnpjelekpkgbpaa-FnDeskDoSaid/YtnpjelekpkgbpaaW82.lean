/- Walks: DeskDo of the reference. Words. -/
import Derived.Test.YtnpjelekpkgbpaaV12
import Derived.Test.YtnpjelekpkgbpaaV10
import Derived.Laws.StructEq
namespace Go.Proofs.Ytnpjelekpkgbpaa
set_option linter.unusedVariables false
open Go.RowKit

/-- whether a deed is the one that puts the map of before back -/
def isBack (kd a b : Int) (s : ByteArray) : Bool := decide (kd = 4) && decide (a = 0) && decide (b = 0) && emp s
theorem eqBack (kd a b : Int) (s : ByteArray) (w : World) : (binOp .eql 34 (.agg #[.int .i64 kd, .int .i64 a, .int .i64 b, .string s]) (.agg #[.int .i64 4, .int .i64 0, .int .i64 0, .string ⟨#[]⟩])).run Try.prog w = .ok (.bool (isBack kd a b s)) w := by
  have u3 := Try.underlying3
  have a3 := Try.isAgg3
  have z3 := Try.sizeOf3
  have u9 := Try.underlying9
  have a9 := Try.isAgg9
  have z9 := Try.sizeOf9
  have hS : Try.prog.underlying 34 = some (.struct (Try.prog.fieldsOf 34)) := by kernel_rfl
  have hp : Try.prog.stoodInHeld 34 = false := by kernel_rfl
  have he : (s.toList == []) = emp s := by
    rcases hs : emp s with _ | _
    · have := strN (emp_not.1 hs)
      simpa using this
    · rw [strE (emp_iff.1 hs)]; rfl
  rw [run_eql_struct, show (10000 : Nat) = 9999 + 1 from rfl, run_equalIn_agg w 9999 34 _ _ hS hp]
  simp only [Program.fieldsOf, Try.underlying34]
  go_simp
  unfold isBack
  by_cases h1 : kd = 4 <;> by_cases h2 : a = 0 <;> by_cases h3 : b = 0 <;> simp [h1, h2, h3, ← he]
  rcases s.toList with _ | _ <;> simp
def Ty (w : World) (G : Nat) : Prop := ∃ cur fr, w.heap[G]? = some (.cells cur 30 fr)
theorem Ty.made (w : World) (cur : Array Value) : Ty (w.alloc (.cells cur 30)) w.heap.size := ⟨cur, (0, 0), heap_alloc_new w _⟩
theorem Ty.of {w w' : World} {G : Nat} (h : Ty w G) (e : w'.heap[G]? = w.heap[G]?) : Ty w' G := by obtain ⟨cur, fr, h⟩ := h; exact ⟨cur, fr, e.trans h⟩
theorem Ty.lt {w : World} {G : Nat} (h : Ty w G) : G < w.heap.size := by obtain ⟨cur, fr, h⟩ := h; exact (Array.getElem?_eq_some_iff.1 h).1
theorem Ty.up {w w' : World} {G : Nat} (h : Ty w G) (hb : Below w.heap.size w w') : Ty w' G := h.of (hb.block G h.lt)
theorem Ty.ne {w : World} {G : Nat} {B k n : Nat} {e : TypeId} {v : Value} {vs : List Value} (h : Ty w G) (hv : w.ownsRow B e k v n vs) (he : e ≠ 30) : v.ownBlock ≠ some G := by
  intro hg
  obtain ⟨cur, fr, h⟩ := h
  rcases hv.2 with ⟨rfl, _⟩ | ⟨g, cap, cur', rfl, _, hh, _⟩
  · cases hg
  · cases hg
    rw [hh] at h
    cases h
    exact he rfl
theorem ownsRow_ne {w w' : World} {B k n : Nat} {e : TypeId} {v : Value} {vs : List Value} {lo hi : Nat} (h : w.ownsRow B e k v n vs) (hc : Chg lo hi w w') (hne : ∀ g, v.ownBlock = some g → g < lo ∨ hi ≤ g) : w'.ownsRow B e k v n vs := by
  refine ⟨h.1, h.2.elim .inl fun ⟨g, cap, cur, e', hg, hb, r⟩ => .inr ⟨g, cap, cur, e', hg, ?_, r⟩⟩
  rw [hc.block g (Array.getElem?_eq_some_iff.1 hb).1 (hne g (by rw [e']; rfl))]
  exact hb
theorem OwnIn.ty {w w' : World} {lo hi n c G : Nat} {A : Option Addr} {xs : List Int} (h : OwnIn w lo hi A n c xs) (hT : Ty w G) (hc : Chg G (G + 1) w w') : OwnIn w' lo hi A n c xs :=
  ⟨⟨h.1.1, ownsRow_ne h.1.2 hc (fun g hg => by
    have := hT.ne h.1.2 (by decide)
    rw [hg] at this
    have hne : g ≠ G := fun e => this (by rw [e])
    omega)⟩, h.2⟩
theorem OwnRR.ty {w w' : World} {B G : Nat} {v : Value} {xss : List (List Int)} (h : OwnRR w B v xss) (hT : Ty w G) (hc : Chg G (G + 1) w w') : OwnRR w' B v xss := by
  obtain ⟨vs, hv, hr⟩ := h
  refine ⟨vs, ownsRow_ne hv hc (fun g hg => by
    have := hT.ne hv (by decide)
    rw [hg] at this
    have hne : g ≠ G := fun e => this (by rw [e])
    omega), fun j hj => ?_⟩
  obtain ⟨A, n, c, e, hO⟩ := hr j hj
  exact ⟨A, n, c, e, (hO.ty hT hc).wide (Nat.le_refl _) hc.size⟩
theorem OwnRR.chg {w w' : World} {B lo hi : Nat} {v : Value} {xss : List (List Int)} (h : OwnRR w B v xss) (hc : Chg lo hi w w') (hB : hi ≤ B) : OwnRR w' B v xss := by
  obtain ⟨vs, hv, hr⟩ := h
  refine ⟨vs, ownsRow_ne hv hc (fun g hg => by have := (hv.lt g hg).1; omega), fun j hj => ?_⟩
  obtain ⟨A, n, c, e, hO⟩ := hr j hj
  exact ⟨A, n, c, e, (hO.chg hc (.inr hB)).wide (Nat.le_refl _) hc.size⟩
theorem Two.grown {w w' : World} {g : Nat} {x y : Value} {row : Option Nat} (h : Two w g x y) (hg : w.grownBy w' row) (hne : row ≠ some g) : Two w' g x y :=
  have e := hg.block g h.1 (fun e => hne e.symm)
  ⟨Nat.lt_of_lt_of_le h.1 hg.size, (World.cell?_of_block (a := ⟨g, 0, none⟩) e).trans h.2.1, (World.cell?_of_block (a := ⟨g, 1, none⟩) e).trans h.2.2.1, (World.frozen?_of_block (a := ⟨g, 0, none⟩) e).trans h.2.2.2.1, (World.frozen?_of_block (a := ⟨g, 1, none⟩) e).trans h.2.2.2.2⟩
/-- One row more, whatever its block: what else changed. -/
theorem app_rg {ops : Array Oper} {rest : List Oper} {o : Oper} {a : Act} {Q : Exit → Act → World → Prop} (w : World) (A : Option Addr) (n c : Nat) (hgd : o.guard = none) (s x : Operand)
    (ho : o.op = .call { callee := .builtin .append, args := #[s, x], argTypes := #[23, 23] })
    (B : Nat) (v : Value) (xss : List (List Int)) (hs : a.eval s = v) (hown : OwnRR w B v xss) (hx : a.eval x = .slice (some ⟨w.heap.size, 0, none⟩) 1 1) (ys : List Int) (hy : OwnIn w B w.heap.size A n c ys)
    (hlen : xss.length ≤ 1000000000) (hB : B ≤ w.heap.size)
    (h : ∀ v' w', OwnRR w' B v' (xss ++ [ys]) → (w.alloc (.cells #[.slice A n c] 22)).grownBy w' v.ownBlock → wpList Try.prog ops Q rest (a.put o.dst v') w') :
    wpList Try.prog ops Q (o :: rest) a (w.alloc (.cells #[.slice A n c] 22)) := by
  obtain ⟨i0, hi, hz0, hz1, hz2⟩ := info_parts row_info
  obtain ⟨vs, hv, hr⟩ := hown
  have hb0 : Below w.heap.size w (w.alloc (.cells #[.slice A n c] 22)) := (Below.refl _ _).alloc (Nat.le_refl _) _
  refine wpList_append_own _ hgd s x 23 ho B 22 i0 (.slice none 0 0) 1 24 Try.underlying23 hi hz0 hz1 hz2 rfl (by decide) v xss.length vs hs (hv.alloc _) ⟨w.heap.size, 0, none⟩ 1 1 [.slice A n c] hx rfl (cell_one_new _ _ _) (by simp [Value.oneCell']) (by unfold maxLen; omega) (by omega) (by simp; omega) ?_
  intro v' w' hown' hg _
  have hvl : vs.length = xss.length := by have := hv.1; omega
  have hsz : w.heap.size ≤ w'.heap.size := Nat.le_trans hb0.size hg.size
  refine h v' w' ⟨vs ++ [.slice A n c], by rw [List.length_append]; exact hown', fun j hj => ?_⟩ hg
  rcases Nat.lt_or_ge j xss.length with h1 | h1
  · obtain ⟨A1, n1, c1, e, hO⟩ := hr j h1
    refine ⟨A1, n1, c1, by rw [List.getElem?_append_left (by omega)]; exact e, ?_⟩
    rw [gR_snoc_lt h1]
    exact ((hO.up hb0).grown hg (fun g hgg => ne_outer (ownsRow_up hv hb0) (hO.up hb0) g hgg)).wide (Nat.le_refl _) hsz
  · have hj' : j = xss.length := by rw [List.length_append] at hj; simp at hj; omega
    subst hj'
    refine ⟨A, n, c, by rw [← hvl]; simp, ?_⟩
    rw [gR_snoc_at]
    exact ((hy.up hb0).grown hg (fun g hgg => ne_outer (ownsRow_up hv hb0) (hy.up hb0) g hgg)).wide (Nat.le_refl _) hsz
/-- All that a desk reads from lies from block lo on. -/
def FreshD (w : World) (lo : Nat) (A : Option Addr) (n c : Nat) (P : Option Addr) (m d : Nat) : Prop :=
  (∀ q, (Value.slice A n c).ownBlock = some q → lo ≤ q) ∧ (∀ q, (Value.slice P m d).ownBlock = some q → lo ≤ q) ∧
  ∀ k b off A' n' c', k < m → P = some ⟨b, off, none⟩ → w.cell? ⟨b, off + k, none⟩ = some (.slice A' n' c') → ∀ q, (Value.slice A' n' c').ownBlock = some q → lo ≤ q
theorem FreshD.nil_ (w : World) (lo : Nat) : FreshD w lo none 0 0 none 0 0 := ⟨(fun q hq => by cases hq), (fun q hq => by cases hq), fun k _ _ _ _ _ hk => absurd hk (Nat.not_lt_zero _)⟩
theorem FreshD.more {w : World} {lo lo' n c m d : Nat} {A P : Option Addr} (h : FreshD w lo A n c P m d) (hl : lo' ≤ lo) : FreshD w lo' A n c P m d :=
  ⟨fun q hq => Nat.le_trans hl (h.1 q hq), fun q hq => Nat.le_trans hl (h.2.1 q hq), fun k b off A' n' c' hk hP hc q hq => Nat.le_trans hl (h.2.2 k b off A' n' c' hk hP hc q hq)⟩
theorem Ors.rows {w : World} {lo hi m d : Nat} {P : Option Addr} {yss : List (List Int)} (h : Ors w lo hi (.slice P m d) yss) :
    ∀ k b off A' n' c', k < m → P = some ⟨b, off, none⟩ → w.cell? ⟨b, off + k, none⟩ = some (.slice A' n' c') → ∀ q, (Value.slice A' n' c').ownBlock = some q → lo ≤ q := by
  intro k b off A' n' c' hk hP hc q hq
  obtain ⟨A0, c0, e0, hr0⟩ := h.form
  cases e0
  obtain ⟨vs, gs, hv, hb, hd, hr⟩ := h
  rcases id hv.2 with ⟨e, h0⟩ | ⟨g, cap, cur, e, _⟩
  · omega
  · cases e
    cases hP
    obtain ⟨h1, h2, A, n, c, e1, hO⟩ := hr k hk
    rw [Nat.zero_add, hv.cellAt k (by omega), e1] at hc
    cases hc
    have := hO.lt q hq
    omega
theorem OwnRR.rows {w : World} {B m d : Nat} {P : Option Addr} {yss : List (List Int)} (h : OwnRR w B (.slice P m d) yss) :
    ∀ k b off A' n' c', k < m → P = some ⟨b, off, none⟩ → w.cell? ⟨b, off + k, none⟩ = some (.slice A' n' c') → ∀ q, (Value.slice A' n' c').ownBlock = some q → B ≤ q := by
  intro k b off A' n' c' hk hP hc q hq
  obtain ⟨A0, c0, e0, hr0⟩ := h.form
  cases e0
  obtain ⟨vs, hv, hr⟩ := h
  rcases id hv.2 with ⟨e, h0⟩ | ⟨g, cap, cur, e, _⟩
  · omega
  · cases e
    cases hP
    obtain ⟨A, n, c, e1, hO⟩ := hr k hk
    rw [Nat.zero_add, hv.cellAt k (by omega), e1] at hc
    cases hc
    exact (hO.lt q hq).1
theorem OwnD.fresh {w : World} {lo hi n c m d : Nat} {A P : Option Addr} {xs : List Int} {yss : List (List Int)} (h : OwnD w lo hi A n c xs P m d yss) : FreshD w lo A n c P m d := by
  obtain ⟨mid, h1, h2, hO, hR⟩ := h
  refine ⟨fun q hq => (hO.lt q hq).1, fun q hq => ?_, fun k b off A' n' c' hk hP hc q hq => Nat.le_trans h1 (hR.rows k b off A' n' c' hk hP hc q hq)⟩
  obtain ⟨vs, gs, hv, _⟩ := hR
  have := (hv.lt q hq).1
  omega
theorem OwnRR.fresh {w : World} {B lo hi n c m d : Nat} {A P : Option Addr} {xs : List Int} {yss : List (List Int)} (h : OwnRR w B (.slice P m d) yss) (hO : OwnIn w lo hi A n c xs) (hl : B ≤ lo) : FreshD w B A n c P m d :=
  ⟨fun q hq => Nat.le_trans hl (hO.lt q hq).1, fun q hq => by
    obtain ⟨vs, hv, _⟩ := h
    exact (hv.lt q hq).1, h.rows⟩
theorem FreshD.drop {w : World} {lo n c m d b off : Nat} {A : Option Addr} (h : FreshD w lo A n c (some ⟨b, off, none⟩) (m + 1) (d + 1)) : FreshD w lo A n c (some ⟨b, off + 1, none⟩) m d :=
  ⟨h.1, fun q hq => h.2.1 q hq, fun k b' off' A' n' c' hk hP hc q hq => by
    cases hP
    exact h.2.2 (k + 1) b off A' n' c' (by omega) rfl (by rw [show off + (k + 1) = off + 1 + k by omega]; exact hc) q hq⟩
theorem OwnRR.nilB (w : World) (B : Nat) : OwnRR w B (.slice none 0 0) [] := ⟨[], World.ownsRow_nil _ _ _ _, fun j hj => absurd hj (Nat.not_lt_zero _)⟩
theorem OwnRR.moreB {w : World} {B B' : Nat} {v : Value} {xss : List (List Int)} (h : OwnRR w B v xss) (hB : B' ≤ B) : OwnRR w B' v xss := by
  obtain ⟨vs, hv, hr⟩ := h
  refine ⟨vs, ⟨hv.1, hv.2.elim .inl fun ⟨g, cap, cur, e', hg, r⟩ => .inr ⟨g, cap, cur, e', by omega, r⟩⟩, fun j hj => ?_⟩
  obtain ⟨A, n, c, e, hO⟩ := hr j hj
  exact ⟨A, n, c, e, hO.wide hB (Nat.le_refl _)⟩
theorem OwnRR.take_ {w : World} {B m d b : Nat} {yss : List (List Int)} (h : OwnRR w B (.slice (some ⟨b, 0, none⟩) m d) yss) {j : Nat} (hj : j ≤ m) : OwnRR w B (.slice (some ⟨b, 0, none⟩) j d) (yss.take j) := by
  obtain ⟨A0, c0, e0, hr0⟩ := h.form
  cases e0
  obtain ⟨vs, hv, hr⟩ := h
  rcases hv.2 with ⟨e, _⟩ | ⟨g, cap, cur, e, hg, hh, h1, h2, h3, h4⟩
  · cases e
  · cases e
    have hvl : vs.length = yss.length := by have := hv.1; omega
    have hlj : (yss.take j).length = j := by rw [List.length_take]; omega
    refine ⟨vs.take j, ?_, fun k hk => ?_⟩
    · rw [hlj]
      refine ⟨by rw [List.length_take]; omega, .inr ⟨b, d, cur, rfl, hg, hh, by omega, h2, h3, ?_⟩⟩
      rw [← h4, List.take_take]
      congr 1; omega
    · rw [hlj] at hk
      obtain ⟨A, n, c, e, hO⟩ := hr k (by omega)
      refine ⟨A, n, c, by rw [List.getElem?_take_of_lt hk]; exact e, ?_⟩
      rw [gR_takeN hk]; exact hO
theorem OwnD.now_ {w : World} {lo hi n c m d B : Nat} {A P : Option Addr} {xs : List Int} {yss : List (List Int)} (h : OwnD w lo hi A n c xs P m d yss) (hB : B ≤ lo) (hh : hi ≤ w.heap.size) : OwnIn w B w.heap.size A n c xs := by
  obtain ⟨mid, h1, h2, hO, hR⟩ := h
  exact hO.wide hB (by omega)
theorem OwnD.rrD {w : World} {lo hi n c m d B : Nat} {A P : Option Addr} {xs : List Int} {yss : List (List Int)} (h : OwnD w lo hi A n c xs P m d yss) (hB : B ≤ lo) (hh : hi ≤ w.heap.size) : OwnRR w B (.slice P m d) yss := by
  obtain ⟨mid, h1, h2, hO, hR⟩ := h
  exact hR.rr (by omega) hh
def DoRd (w : World) (r : List Int × List (List Int) × Bool) (e : Ending) (w' : World) : Prop :=
  ∃ A n c P m d, e = .returned (.tuple #[.agg #[.slice A n c, .slice P m d], .bool r.2.2]) ∧ RdD w' w'.heap.size A n c r.1 P m d r.2.1 ∧ Below w.heap.size w w' ∧ FreshD w' w.heap.size A n c P m d ∧ (r.2.1.length < 8 → OwnRR w' w.heap.size (.slice P m d) r.2.1) ∧ OwnIn w' w.heap.size w'.heap.size A n c r.1
theorem DoFr.endR {w wr : World} {x y : Value} {kd a b : Int} {s : ByteArray} {A P : Option Addr} {n c m d : Nat} {xs : List Int} {yss : List (List Int)} (h : DoFr w wr x y kd a b s) (r : Bool)
    (hP : ∀ w', Chg (w.heap.size + 2) (w.heap.size + 3) wr w' → FreshD w' w.heap.size A n c P m d ∧ (yss.length < 8 → OwnRR w' w.heap.size (.slice P m d) yss) ∧ OwnIn w' w.heap.size w'.heap.size A n c xs) (hR : ∀ w', Chg (w.heap.size + 2) (w.heap.size + 3) wr w' → RdD w' w'.heap.size A n c xs P m d yss) :
    DoRd w (xs, yss, r) (.returned (.tuple #[.agg #[.slice A n c, .slice P m d], .bool r])) ((wr.setCell ⟨w.heap.size + 2, 0, none⟩ (.slice A n c)).setCell ⟨w.heap.size + 2, 1, none⟩ (.slice P m d)) ∧
    Two ((wr.setCell ⟨w.heap.size + 2, 0, none⟩ (.slice A n c)).setCell ⟨w.heap.size + 2, 1, none⟩ (.slice P m d)) (w.heap.size + 2) (.slice A n c) (.slice P m d) := by
  have hch : Chg (w.heap.size + 2) (w.heap.size + 3) wr ((wr.setCell ⟨w.heap.size + 2, 0, none⟩ (.slice A n c)).setCell ⟨w.heap.size + 2, 1, none⟩ (.slice P m d)) :=
    ((Chg.refl _ _ wr).setCell (p := ⟨w.heap.size + 2, 0, none⟩) (by simp) (by simp) _).setCell (p := ⟨w.heap.size + 2, 1, none⟩) (by simp) (by simp) _
  have hz := h.size
  exact ⟨⟨_, _, _, _, _, _, rfl, hR _ hch, h.bel.trans (hch.belowLo (by omega) (by omega)), hP _ hch⟩, (h.res.set0 _).set1 _⟩
theorem rdr_drop {w : World} {B m d : Nat} {b off : Nat} {yss : List (List Int)} (h : RdR w B (some ⟨b, off, none⟩) (m + 1) d yss) : RdR w B (some ⟨b, off + 1, none⟩) m (d - 1) (yss.drop 1) := by
  have hl := h.len
  have hc := h.cap
  have hm := h.max
  refine ⟨by rw [List.length_drop]; omega, by omega, by omega, fun hn => ?_⟩
  obtain ⟨b', off', e, hb, hcell⟩ := h.2.2.2 (by omega)
  cases e
  refine ⟨b, off + 1, rfl, hb, fun k hk => ?_⟩
  obtain ⟨A', n', c', h1, h2⟩ := hcell (k + 1) (by omega)
  refine ⟨A', n', c', by rw [show off + 1 + k = off + (k + 1) by omega]; exact h1, ?_⟩
  rw [gR_dropN, Nat.add_comm]
  exact h2
theorem Ors.rdr {w : World} {lo hi : Nat} {P : Option Addr} {m d : Nat} {yss : List (List Int)} (h : Ors w lo hi (.slice P m d) yss) : RdR w w.heap.size P m d yss := by
  obtain ⟨A', c', e, hr⟩ := h.form
  cases e
  exact hr
theorem DoFr.chgG {w wr w' : World} {x y : Value} {kd a b : Int} {s : ByteArray} {G : Nat} (h : DoFr w wr x y kd a b s) (hc : Chg G (G + 1) wr w') (hG : w.heap.size + 3 ≤ G) : DoFr w w' x y kd a b s :=
  have hz := h.size
  have hb := hc.belowLo (B := w.heap.size + 3) hG hz
  h.below hb (Nat.le_refl _)
end Go.Proofs.Ytnpjelekpkgbpaa
