/- Bundle V15. -/
import Derived.Laws.StructEq
import Derived.Deep.DeepCutAuto
import Derived.Test.YtoinlkdmfclnbaaGreatDoorYV10
import Derived.Test.YtoinlkdmfclnbaaGreatDoorYV12
namespace Go.Proofs.YtoinlkdmfclnbaaGreatDoor
set_option linter.unusedVariables false
section
open Go.RowKit
def isBack (kd a b : Int) (s : ByteArray) : Bool := decide (kd = 4) && decide (a = 0) && decide (b = 0) && emp s
theorem eqBack (kd a b : Int) (s : ByteArray) (w : World) : (binOp .eql 55 (.agg #[.int .i64 kd, .int .i64 a, .int .i64 b, .string s]) (.agg #[.int .i64 4, .int .i64 0, .int .i64 0, .string ⟨#[]⟩])).run Tryz.prog w = .ok (.bool (isBack kd a b s)) w := by
 have u3 := Tryz.underlying3
 have a3 := Tryz.isAgg3
 have z3 := Tryz.sizeOf3
 have u9 := Tryz.underlying9
 have a9 := Tryz.isAgg9
 have z9 := Tryz.sizeOf9
 have hS : Tryz.prog.underlying 55 = some (.struct (Tryz.prog.fieldsOf 55)) := by kernel_rfl
 have hp : Tryz.prog.stoodInHeld 55 = false := by kernel_rfl
 have he : (s.toList == []) = emp s := by
  rcases hs : emp s with _ | _
  · have := strN (emp_not.1 hs)
    simpa using this
  · rw [strE (emp_iff.1 hs)]; rfl
 rw [run_eql_struct, show (10000 : Nat) = 9999 + 1 from rfl, run_equalIn_agg w 9999 55 _ _ hS hp]
 simp only [Program.fieldsOf, Tryz.underlying55]
 go_simp
 unfold isBack
 by_cases h1 : kd = 4 <;> by_cases h2 : a = 0 <;> by_cases h3 : b = 0 <;> simp [h1, h2, h3, ← he]
 rcases s.toList with _ | _ <;> simp
def Ty (w : World) (G : Nat) : Prop := ∃ cur fr, w.heap[G]? = some (.cells cur 26 fr)
theorem Ty.made (w : World) (cur : Array Value) : Ty (w.alloc (.cells cur 26)) w.heap.size := ⟨cur, (0, 0), heap_alloc_new w _⟩
theorem Ty.of {w w' : World} {G : Nat} (h : Ty w G) (e : w'.heap[G]? = w.heap[G]?) : Ty w' G := by obtain ⟨cur, fr, h⟩ := h; exact ⟨cur, fr, e.trans h⟩
theorem Ty.lt {w : World} {G : Nat} (h : Ty w G) : G < w.heap.size := by obtain ⟨cur, fr, h⟩ := h; exact (Array.getElem?_eq_some_iff.1 h).1
theorem Ty.up {w w' : World} {G : Nat} (h : Ty w G) (hb : Below w.heap.size w w') : Ty w' G := h.of (hb.block G h.lt)
theorem Ty.ne {w : World} {G : Nat} {B k n : Nat} {e : TypeId} {v : Value} {vs : List Value} (h : Ty w G) (hv : w.ownsRow B e k v n vs) (he : e ≠ 26) : v.ownBlock ≠ some G := by
 intro hg
 obtain ⟨cur, fr, h⟩ := h
 rcases hv.2 with ⟨rfl, _⟩ | ⟨g, cap, cur', rfl, _, hh, _⟩
 · cases hg
 · cases hg
   rw [hh] at h
   cases h
   exact he rfl
theorem ownsRow_ne {w w' : World} {B k n : Nat} {e : TypeId} {v : Value} {vs : List Value} {lo hi : Nat} (h : w.ownsRow B e k v n vs) (hc : Chg lo hi w w') (hne : ∀ g, v.ownBlock = some g → g < lo ∨ hi ≤ g) : w'.ownsRow B e k v n vs := by
 refine ⟨h.1, h.2.elim .inl fun ⟨g, cap, cur, e', hg, hb, r⟩ => .inr ⟨g, cap, cur, e', hg, ?_, r⟩⟩
 rw [hc.block g (Array.getElem?_eq_some_iff.1 hb).1 (hne g (by rw [e']; rfl))]
 exact hb
theorem OwnIn.ty {w w' : World} {lo hi n c G : Nat} {A : Option Addr} {xs : List Int} (h : OwnIn w lo hi A n c xs) (hT : Ty w G) (hc : Chg G (G + 1) w w') : OwnIn w' lo hi A n c xs :=
 ⟨⟨h.1.1, ownsRow_ne h.1.2 hc (fun g hg => by
  have := hT.ne h.1.2 (by decide)
  rw [hg] at this
  have hne : g ≠ G := fun e => this (by rw [e])
  omega)⟩, h.2⟩
theorem OwnRR.ty {w w' : World} {B G : Nat} {v : Value} {xss : List (List Int)} (h : OwnRR w B v xss) (hT : Ty w G) (hc : Chg G (G + 1) w w') : OwnRR w' B v xss := by
 obtain ⟨vs, hv, hr⟩ := h
 refine ⟨vs, ownsRow_ne hv hc (fun g hg => by
  have := hT.ne hv (by decide)
  rw [hg] at this
  have hne : g ≠ G := fun e => this (by rw [e])
  omega), fun j hj => ?_⟩
 obtain ⟨A, n, c, e, hO⟩ := hr j hj
 exact ⟨A, n, c, e, (hO.ty hT hc).wide (Nat.le_refl _) hc.size⟩
theorem OwnRR.chg {w w' : World} {B lo hi : Nat} {v : Value} {xss : List (List Int)} (h : OwnRR w B v xss) (hc : Chg lo hi w w') (hB : hi ≤ B) : OwnRR w' B v xss := by
 obtain ⟨vs, hv, hr⟩ := h
 refine ⟨vs, ownsRow_ne hv hc (fun g hg => by have := (hv.lt g hg).1; omega), fun j hj => ?_⟩
 obtain ⟨A, n, c, e, hO⟩ := hr j hj
 exact ⟨A, n, c, e, (hO.chg hc (.inr hB)).wide (Nat.le_refl _) hc.size⟩
theorem Two.grown {w w' : World} {g : Nat} {x y : Value} {row : Option Nat} (h : Two w g x y) (hg : w.grownBy w' row) (hne : row ≠ some g) : Two w' g x y :=
 have e := hg.block g h.1 (fun e => hne e.symm)
 ⟨Nat.lt_of_lt_of_le h.1 hg.size, (World.cell?_of_block (a := ⟨g, 0, none⟩) e).trans h.2.1, (World.cell?_of_block (a := ⟨g, 1, none⟩) e).trans h.2.2.1, (World.frozen?_of_block (a := ⟨g, 0, none⟩) e).trans h.2.2.2.1, (World.frozen?_of_block (a := ⟨g, 1, none⟩) e).trans h.2.2.2.2⟩
theorem app_rg {ops : Array Oper} {rest : List Oper} {o : Oper} {a : Act} {Q : Exit → Act → World → Prop} (w : World) (A : Option Addr) (n c : Nat) (hgd : o.guard = none) (s x : Operand)
    (ho : o.op = .call { callee := .builtin .append, args := #[s, x], argTypes := #[24, 24] })
    (B : Nat) (v : Value) (xss : List (List Int)) (hs : a.eval s = v) (hown : OwnRR w B v xss) (hx : a.eval x = .slice (some ⟨w.heap.size, 0, none⟩) 1 1) (ys : List Int) (hy : OwnIn w B w.heap.size A n c ys)
    (hlen : xss.length ≤ 1000000000) (hB : B ≤ w.heap.size)
    (h : ∀ v' w', OwnRR w' B v' (xss ++ [ys]) → (w.alloc (.cells #[.slice A n c] 23)).grownBy w' v.ownBlock → wpList Tryz.prog ops Q rest (a.put o.dst v') w') :
    wpList Tryz.prog ops Q (o :: rest) a (w.alloc (.cells #[.slice A n c] 23)) := by
 obtain ⟨i0, hi, hz0, hz1, hz2⟩ := info_parts row_info
 obtain ⟨vs, hv, hr⟩ := hown
 have hb0 : Below w.heap.size w (w.alloc (.cells #[.slice A n c] 23)) := (Below.refl _ _).alloc (Nat.le_refl _) _
 refine wpList_append_own _ hgd s x 24 ho B 23 i0 (.slice none 0 0) 1 24 Tryz.underlying24 hi hz0 hz1 hz2 rfl (by decide) v xss.length vs hs (hv.alloc _) ⟨w.heap.size, 0, none⟩ 1 1 [.slice A n c] hx rfl (cell_one_new _ _ _) (by simp [Value.oneCell']) (by unfold maxLen; omega) (by omega) (by simp; omega) ?_
 intro v' w' hown' hg _
 have hvl : vs.length = xss.length := by have := hv.1; omega
 have hsz : w.heap.size ≤ w'.heap.size := Nat.le_trans hb0.size hg.size
 refine h v' w' ⟨vs ++ [.slice A n c], by rw [List.length_append]; exact hown', fun j hj => ?_⟩ hg
 rcases Nat.lt_or_ge j xss.length with h1 | h1
 · obtain ⟨A1, n1, c1, e, hO⟩ := hr j h1
   refine ⟨A1, n1, c1, by rw [List.getElem?_append_left (by omega)]; exact e, ?_⟩
   rw [gR_snoc_lt h1]
   exact ((hO.up hb0).grown hg (fun g hgg => ne_outer (ownsRow_up hv hb0) (hO.up hb0) g hgg)).wide (Nat.le_refl _) hsz
 · have hj' : j = xss.length := by rw [List.length_append] at hj; simp at hj; omega
   subst hj'
   refine ⟨A, n, c, by rw [← hvl]; simp, ?_⟩
   rw [gR_snoc_at]
   exact ((hy.up hb0).grown hg (fun g hgg => ne_outer (ownsRow_up hv hb0) (hy.up hb0) g hgg)).wide (Nat.le_refl _) hsz
def FreshD (w : World) (lo : Nat) (A : Option Addr) (n c : Nat) (P : Option Addr) (m d : Nat) : Prop :=
 (∀ q, (Value.slice A n c).ownBlock = some q → lo ≤ q) ∧ (∀ q, (Value.slice P m d).ownBlock = some q → lo ≤ q) ∧
 ∀ k b off A' n' c', k < m → P = some ⟨b, off, none⟩ → w.cell? ⟨b, off + k, none⟩ = some (.slice A' n' c') → ∀ q, (Value.slice A' n' c').ownBlock = some q → lo ≤ q
theorem FreshD.nil_ (w : World) (lo : Nat) : FreshD w lo none 0 0 none 0 0 := ⟨(fun q hq => by cases hq), (fun q hq => by cases hq), fun k _ _ _ _ _ hk => absurd hk (Nat.not_lt_zero _)⟩
theorem FreshD.more {w : World} {lo lo' n c m d : Nat} {A P : Option Addr} (h : FreshD w lo A n c P m d) (hl : lo' ≤ lo) : FreshD w lo' A n c P m d :=
 ⟨fun q hq => Nat.le_trans hl (h.1 q hq), fun q hq => Nat.le_trans hl (h.2.1 q hq), fun k b off A' n' c' hk hP hc q hq => Nat.le_trans hl (h.2.2 k b off A' n' c' hk hP hc q hq)⟩
theorem Ors.rows {w : World} {lo hi m d : Nat} {P : Option Addr} {yss : List (List Int)} (h : Ors w lo hi (.slice P m d) yss) :
    ∀ k b off A' n' c', k < m → P = some ⟨b, off, none⟩ → w.cell? ⟨b, off + k, none⟩ = some (.slice A' n' c') → ∀ q, (Value.slice A' n' c').ownBlock = some q → lo ≤ q := by
 intro k b off A' n' c' hk hP hc q hq
 obtain ⟨A0, c0, e0, hr0⟩ := h.form
 cases e0
 obtain ⟨vs, gs, hv, hb, hd, hr⟩ := h
 rcases id hv.2 with ⟨e, h0⟩ | ⟨g, cap, cur, e, _⟩
 · omega
 · cases e
   cases hP
   obtain ⟨h1, h2, A, n, c, e1, hO⟩ := hr k hk
   rw [Nat.zero_add, hv.cellAt k (by omega), e1] at hc
   cases hc
   have := hO.lt q hq
   omega
theorem OwnRR.rows {w : World} {B m d : Nat} {P : Option Addr} {yss : List (List Int)} (h : OwnRR w B (.slice P m d) yss) :
    ∀ k b off A' n' c', k < m → P = some ⟨b, off, none⟩ → w.cell? ⟨b, off + k, none⟩ = some (.slice A' n' c') → ∀ q, (Value.slice A' n' c').ownBlock = some q → B ≤ q := by
 intro k b off A' n' c' hk hP hc q hq
 obtain ⟨A0, c0, e0, hr0⟩ := h.form
 cases e0
 obtain ⟨vs, hv, hr⟩ := h
 rcases id hv.2 with ⟨e, h0⟩ | ⟨g, cap, cur, e, _⟩
 · omega
 · cases e
   cases hP
   obtain ⟨A, n, c, e1, hO⟩ := hr k hk
   rw [Nat.zero_add, hv.cellAt k (by omega), e1] at hc
   cases hc
   exact (hO.lt q hq).1
theorem OwnD.fresh {w : World} {lo hi n c m d : Nat} {A P : Option Addr} {xs : List Int} {yss : List (List Int)} (h : OwnD w lo hi A n c xs P m d yss) : FreshD w lo A n c P m d := by
 obtain ⟨mid, h1, h2, hO, hR⟩ := h
 refine ⟨fun q hq => (hO.lt q hq).1, fun q hq => ?_, fun k b off A' n' c' hk hP hc q hq => Nat.le_trans h1 (hR.rows k b off A' n' c' hk hP hc q hq)⟩
 obtain ⟨vs, gs, hv, _⟩ := hR
 have := (hv.lt q hq).1
 omega
theorem OwnRR.fresh {w : World} {B lo hi n c m d : Nat} {A P : Option Addr} {xs : List Int} {yss : List (List Int)} (h : OwnRR w B (.slice P m d) yss) (hO : OwnIn w lo hi A n c xs) (hl : B ≤ lo) : FreshD w B A n c P m d :=
 ⟨fun q hq => Nat.le_trans hl (hO.lt q hq).1, fun q hq => by
  obtain ⟨vs, hv, _⟩ := h
  exact (hv.lt q hq).1, h.rows⟩
theorem FreshD.drop {w : World} {lo n c m d b off : Nat} {A : Option Addr} (h : FreshD w lo A n c (some ⟨b, off, none⟩) (m + 1) (d + 1)) : FreshD w lo A n c (some ⟨b, off + 1, none⟩) m d :=
 ⟨h.1, fun q hq => h.2.1 q hq, fun k b' off' A' n' c' hk hP hc q hq => by
  cases hP
  exact h.2.2 (k + 1) b off A' n' c' (by omega) rfl (by rw [show off + (k + 1) = off + 1 + k by omega]; exact hc) q hq⟩
theorem OwnRR.nilB (w : World) (B : Nat) : OwnRR w B (.slice none 0 0) [] := ⟨[], World.ownsRow_nil _ _ _ _, fun j hj => absurd hj (Nat.not_lt_zero _)⟩
theorem OwnRR.moreB {w : World} {B B' : Nat} {v : Value} {xss : List (List Int)} (h : OwnRR w B v xss) (hB : B' ≤ B) : OwnRR w B' v xss := by
 obtain ⟨vs, hv, hr⟩ := h
 refine ⟨vs, ⟨hv.1, hv.2.elim .inl fun ⟨g, cap, cur, e', hg, r⟩ => .inr ⟨g, cap, cur, e', by omega, r⟩⟩, fun j hj => ?_⟩
 obtain ⟨A, n, c, e, hO⟩ := hr j hj
 exact ⟨A, n, c, e, hO.wide hB (Nat.le_refl _)⟩
theorem OwnRR.take_ {w : World} {B m d b : Nat} {yss : List (List Int)} (h : OwnRR w B (.slice (some ⟨b, 0, none⟩) m d) yss) {j : Nat} (hj : j ≤ m) : OwnRR w B (.slice (some ⟨b, 0, none⟩) j d) (yss.take j) := by
 obtain ⟨A0, c0, e0, hr0⟩ := h.form
 cases e0
 obtain ⟨vs, hv, hr⟩ := h
 rcases hv.2 with ⟨e, _⟩ | ⟨g, cap, cur, e, hg, hh, h1, h2, h3, h4⟩
 · cases e
 · cases e
   have hvl : vs.length = yss.length := by have := hv.1; omega
   have hlj : (yss.take j).length = j := by rw [List.length_take]; omega
   refine ⟨vs.take j, ?_, fun k hk => ?_⟩
   · rw [hlj]
     refine ⟨by rw [List.length_take]; omega, .inr ⟨b, d, cur, rfl, hg, hh, by omega, h2, h3, ?_⟩⟩
     rw [← h4, List.take_take]
     congr 1; omega
   · rw [hlj] at hk
     obtain ⟨A, n, c, e, hO⟩ := hr k (by omega)
     refine ⟨A, n, c, by rw [List.getElem?_take_of_lt hk]; exact e, ?_⟩
     rw [gR_takeN hk]; exact hO
theorem OwnD.now_ {w : World} {lo hi n c m d B : Nat} {A P : Option Addr} {xs : List Int} {yss : List (List Int)} (h : OwnD w lo hi A n c xs P m d yss) (hB : B ≤ lo) (hh : hi ≤ w.heap.size) : OwnIn w B w.heap.size A n c xs := by
 obtain ⟨mid, h1, h2, hO, hR⟩ := h
 exact hO.wide hB (by omega)
theorem OwnD.rrD {w : World} {lo hi n c m d B : Nat} {A P : Option Addr} {xs : List Int} {yss : List (List Int)} (h : OwnD w lo hi A n c xs P m d yss) (hB : B ≤ lo) (hh : hi ≤ w.heap.size) : OwnRR w B (.slice P m d) yss := by
 obtain ⟨mid, h1, h2, hO, hR⟩ := h
 exact hR.rr (by omega) hh
def DoRd (w : World) (r : List Int × List (List Int) × Bool) (e : Ending) (w' : World) : Prop :=
 ∃ A n c P m d, e = .returned (.tuple #[.agg #[.slice A n c, .slice P m d], .bool r.2.2]) ∧ RdD w' w'.heap.size A n c r.1 P m d r.2.1 ∧ Below w.heap.size w w' ∧ FreshD w' w.heap.size A n c P m d ∧ (r.2.1.length < 8 → OwnRR w' w.heap.size (.slice P m d) r.2.1) ∧ OwnIn w' w.heap.size w'.heap.size A n c r.1
theorem DoFr.endR {w wr : World} {x y : Value} {kd a b : Int} {s : ByteArray} {A P : Option Addr} {n c m d : Nat} {xs : List Int} {yss : List (List Int)} (h : DoFr w wr x y kd a b s) (r : Bool)
    (hP : ∀ w', Chg (w.heap.size + 2) (w.heap.size + 3) wr w' → FreshD w' w.heap.size A n c P m d ∧ (yss.length < 8 → OwnRR w' w.heap.size (.slice P m d) yss) ∧ OwnIn w' w.heap.size w'.heap.size A n c xs) (hR : ∀ w', Chg (w.heap.size + 2) (w.heap.size + 3) wr w' → RdD w' w'.heap.size A n c xs P m d yss) :
    DoRd w (xs, yss, r) (.returned (.tuple #[.agg #[.slice A n c, .slice P m d], .bool r])) ((wr.setCell ⟨w.heap.size + 2, 0, none⟩ (.slice A n c)).setCell ⟨w.heap.size + 2, 1, none⟩ (.slice P m d)) ∧
    Two ((wr.setCell ⟨w.heap.size + 2, 0, none⟩ (.slice A n c)).setCell ⟨w.heap.size + 2, 1, none⟩ (.slice P m d)) (w.heap.size + 2) (.slice A n c) (.slice P m d) := by
 have hch : Chg (w.heap.size + 2) (w.heap.size + 3) wr ((wr.setCell ⟨w.heap.size + 2, 0, none⟩ (.slice A n c)).setCell ⟨w.heap.size + 2, 1, none⟩ (.slice P m d)) :=
  ((Chg.refl _ _ wr).setCell (p := ⟨w.heap.size + 2, 0, none⟩) (by simp) (by simp) _).setCell (p := ⟨w.heap.size + 2, 1, none⟩) (by simp) (by simp) _
 have hz := h.size
 exact ⟨⟨_, _, _, _, _, _, rfl, hR _ hch, h.bel.trans (hch.belowLo (by omega) (by omega)), hP _ hch⟩, (h.res.set0 _).set1 _⟩
theorem rdr_drop {w : World} {B m d : Nat} {b off : Nat} {yss : List (List Int)} (h : RdR w B (some ⟨b, off, none⟩) (m + 1) d yss) : RdR w B (some ⟨b, off + 1, none⟩) m (d - 1) (yss.drop 1) := by
 have hl := h.len
 have hc := h.cap
 have hm := h.max
 refine ⟨by rw [List.length_drop]; omega, by omega, by omega, fun hn => ?_⟩
 obtain ⟨b', off', e, hb, hcell⟩ := h.2.2.2 (by omega)
 cases e
 refine ⟨b, off + 1, rfl, hb, fun k hk => ?_⟩
 obtain ⟨A', n', c', h1, h2⟩ := hcell (k + 1) (by omega)
 refine ⟨A', n', c', by rw [show off + 1 + k = off + (k + 1) by omega]; exact h1, ?_⟩
 rw [gR_dropN, Nat.add_comm]
 exact h2
theorem Ors.rdr {w : World} {lo hi : Nat} {P : Option Addr} {m d : Nat} {yss : List (List Int)} (h : Ors w lo hi (.slice P m d) yss) : RdR w w.heap.size P m d yss := by
 obtain ⟨A', c', e, hr⟩ := h.form
 cases e
 exact hr
theorem DoFr.chgG {w wr w' : World} {x y : Value} {kd a b : Int} {s : ByteArray} {G : Nat} (h : DoFr w wr x y kd a b s) (hc : Chg G (G + 1) wr w') (hG : w.heap.size + 3 ≤ G) : DoFr w w' x y kd a b s :=
 have hz := h.size
 have hb := hc.belowLo (B := w.heap.size + 3) hG hz
 h.below hb (Nat.le_refl _)
end
section
open Go.RowKit
set_option maxRecDepth 100000 in
set_option maxHeartbeats 800000 in
theorem s_1 (A P : Option Addr) (n c m d : Nat) (xs : List Int) (yss : List (List Int)) (kd a b : Int) (s : ByteArray) (w : World) (h : RdD w w.heap.size A n c xs P m d yss) (hok : deskOkB xs yss = false) :
    Calls Tryz.prog 49 #[.agg #[.slice A n c, .slice P m d], .agg #[.int .i64 kd, .int .i64 a, .int .i64 b, .string s]] w (DoRd w ([], [], false)) := by
 have hl := h.1.len
 have hF := DoFr.made w (.slice A n c) (.slice P m d) kd a b s
 have h1 : RdD _ _ A n c xs P m d yss := ⟨h.1.up hF.bel, h.2.up hF.bel⟩
 have K1 := sDeskOk_c A P n c m d xs yss _ h1
 rw [hok] at K1
 obtain ⟨_, k0, k1, _, _⟩ := id hF.two
 go_enter Tryz.func49, Tryz.ntmps49
 go_wp2_with fail
 generalize (((w.alloc (.cells #[.slice A n c, .slice P m d] 26)).alloc (.cells #[.int .i64 kd, .int .i64 a, .int .i64 b, .string s] 55)).alloc (.cells #[.slice none 0 0, .slice none 0 0] 26)) = w1 at *
 refine K1.mono ?_
 rintro e w2 ⟨rfl, hb2⟩
 have hF2 := hF.up hb2
 have h2 : RdD w2 w2.heap.size A n c xs P m d yss := ⟨h1.1.up hb2, h1.2.up hb2⟩
 obtain ⟨_, k0, k1, _, _⟩ := id hF2.two
 clear K1 h1 hF hb2
 have hend := hF2.endR (A := none) (P := none) (n := 0) (c := 0) (m := 0) (d := 0) (xs := []) (yss := []) false (fun w' _ => ⟨FreshD.nil_ _ _, fun _ => OwnRR.nilB _ _, OwnIn.nil_ _ _ _⟩) (fun w' _ => ⟨Rd.nil_ _ _, RdR.nil_ _ _⟩)
 obtain ⟨_, r0, r1, r2, r3⟩ := id hF2.res
 have HE := Lib.hid hend
 clear hend
 go_wp2_with fail
 (try simp only [Exit.inBlock, Exit.then])
 refine bodyPost_ret (v := .tuple #[.agg #[.slice none 0 0, .slice none 0 0], .bool false]) ?_ rfl HE.out.1
 exact Eq.trans (results_two_tmp (p := 4) (u := 5) rfl _ _ (w.heap.size + 2) _ _ _ rfl HE.out.2 Tryz.underlying26 rfl desk_size) rfl
set_option maxRecDepth 100000 in
set_option maxHeartbeats 800000 in
theorem s_3 (A P : Option Addr) (n c m d : Nat) (xs : List Int) (yss : List (List Int)) (kd a b : Int) (s : ByteArray) (w : World) (h : RdD w w.heap.size A n c xs P m d yss) (hok : deskOkB xs yss = true) (hs : s.size ≤ 1000000000000) (hnb : isBack kd a b s = false ∨ (isBack kd a b s = true ∧ m = 0)) (hmade : madeI xs kd a b s = []) :
    Calls Tryz.prog 49 #[.agg #[.slice A n c, .slice P m d], .agg #[.int .i64 kd, .int .i64 a, .int .i64 b, .string s]] w (DoRd w (xs, yss, false)) := by
 have hmp := (desk_parts hok).1
 have hfit9 := desk_fit hok
 obtain ⟨hx0, hx7, hfit⟩ := hfit9
 have hlm0 := h.2.len
 have hqe := fun w => eqBack kd a b s w
 have hgu : Tryz.prog.eqGuardType Tryz.prog.depth 55 = false := by kernel_rfl
 rcases hnb with hb0 | ⟨hb0, hm0⟩
 all_goals
  (try (have hm1 : ¬ ((0 : Int) < (m : Int)) := by omega))
  (try clear hm0)
  simp only [hb0] at hqe
  have hl := h.1.len
  have hF := DoFr.made w (.slice A n c) (.slice P m d) kd a b s
  have h1 : RdD _ _ A n c xs P m d yss := ⟨h.1.up hF.bel, h.2.up hF.bel⟩
  have K1 := sDeskOk_c A P n c m d xs yss _ h1
  rw [hok] at K1
  obtain ⟨_, k0, k1, _, _⟩ := id hF.two
  go_enter Tryz.func49, Tryz.ntmps49
  go_wp2_with fail
  generalize (((w.alloc (.cells #[.slice A n c, .slice P m d] 26)).alloc (.cells #[.int .i64 kd, .int .i64 a, .int .i64 b, .string s] 55)).alloc (.cells #[.slice none 0 0, .slice none 0 0] 26)) = w1 at *
  refine K1.mono ?_
  rintro e w2 ⟨rfl, hb2⟩
  have hF2 := hF.up hb2
  have h2 : RdD w2 w2.heap.size A n c xs P m d yss := ⟨h1.1.up hb2, h1.2.up hb2⟩
  obtain ⟨_, k0, k1, _, _⟩ := id hF2.two
  clear K1 h1 hF hb2
  go_wp2_with fail
  refine (sCopy_c A P n c m d xs yss _ h2 (by omega) (by omega) hfit).mono ?_
  rintro e w3 ⟨A3, n3, c3, P3, m3, d3, rfl, hO3, hb3⟩
  obtain ⟨hl3, hl3'⟩ := hO3.lens
  have hml : m = m3 := by have := h2.2.len; omega
  have hnl : n = n3 := by omega
  subst hml
  subst hnl
  have hF3 := hF2.up hb3
  have hz3 := hF3.size
  have hz23 := hb3.size
  have hz2 := hF2.size
  have hbA : Below w3.heap.size w3 (w3.alloc (.cells #[.slice A3 n c3, .slice P3 m d3] 26)) := (Below.refl _ _).alloc (Nat.le_refl _) _
  have hT4 := Two.made w3 26 (.slice A3 n c3) (.slice P3 m d3)
  have hY4 := Ty.made w3 #[.slice A3 n c3, .slice P3 m d3]
  have hF4 := hF3.up hbA
  have hO4 := hO3.up hbA
  have h4 : RdD (w3.alloc (.cells #[.slice A3 n c3, .slice P3 m d3] 26)) (w3.alloc (.cells #[.slice A3 n c3, .slice P3 m d3] 26)).heap.size A n c xs P m d yss := ⟨(h2.1.up hb3).up hbA, (h2.2.up hb3).up hbA⟩
  have hzA := hbA.size
  obtain ⟨_, k0, k1, _, _⟩ := id hF4.two
  obtain ⟨_, q0, q1, q2, q3⟩ := id hF4.four
  obtain ⟨_, t0, t1, t2, t3⟩ := id hT4
  clear h2 hF2 hb3 hF3 hbA hO3
  go_wp2_with fail
  generalize w3.alloc (.cells #[.slice A3 n c3, .slice P3 m d3] 26) = w4 at *
  generalize w3.heap.size = G at *
  refine (sMade_c A n c xs kd a b s _ h4.1 hs hmp).mono ?_
  rintro e w5 ⟨A5, n5, c5, rfl, hI5, hb5⟩
  have hF5 := hF4.up hb5
  have hO5 := hO4.up hb5
  have hT5 := hT4.up hb5
  have hY5 := hY4.up hb5
  have h5 : RdD w5 w5.heap.size A n c xs P m d yss := ⟨h4.1.up hb5, h4.2.up hb5⟩
  have hz5 := hb5.size
  have hl5 := hI5.len
  obtain ⟨_, k0, k1, _, _⟩ := id hF5.two
  obtain ⟨_, t0, t1, t2, t3⟩ := id hT5
  rw [hmade] at hl5
  have h05 : n5 = 0 := by simpa using hl5.symm
  subst h05
  have HFR := Lib.hid hF5
  have HOR := Lib.hid hO5
  clear hF5 hO5 hF4 hO4 hb5 h5 h4 hI5
  have hend := HFR.out.endR (A := A3) (P := P3) (n := n) (c := c3) (m := m) (d := d3) (xs := xs) (yss := yss) false (fun w' hc => ⟨(HOR.out.chg hc (.inr (by omega))).fresh.more (by omega), fun _ => (HOR.out.chg hc (.inr (by omega))).rrD (by omega) (by have := hc.size; omega), (HOR.out.chg hc (.inr (by omega))).now_ (by omega) (by have := hc.size; omega)⟩) (fun w' hc => (HOR.out.chg hc (.inr (by omega))).rd)
  obtain ⟨_, r0, r1, r2, r3⟩ := id HFR.out.res
  have HE := Lib.hid hend
  clear hend
  go_wp2_with fail
  (try simp only [Exit.inBlock, Exit.then])
  refine bodyPost_ret (v := .tuple #[.agg #[.slice A3 n c3, .slice P3 m d3], .bool false]) ?_ rfl HE.out.1
  exact Eq.trans (results_two_tmp (p := 4) (u := 5) rfl _ _ (w.heap.size + 2) _ _ _ rfl HE.out.2 Tryz.underlying26 rfl desk_size) rfl
end
section
open Go.RowKit
set_option maxRecDepth 100000 in
set_option maxHeartbeats 800000 in
theorem s_2 (A P : Option Addr) (n c m d : Nat) (xs : List Int) (yss : List (List Int)) (kd a b : Int) (s : ByteArray) (w : World) (h : RdD w w.heap.size A n c xs P m d yss) (hok : deskOkB xs yss = true) (hs : s.size ≤ 1000000000000) (hnb : isBack kd a b s = true) (j : Nat) (hj : m = j + 1) :
    Calls Tryz.prog 49 #[.agg #[.slice A n c, .slice P m d], .agg #[.int .i64 kd, .int .i64 a, .int .i64 b, .string s]] w (DoRd w (gR yss j, yss.take j, true)) := by
 have hmp := (desk_parts hok).1
 have hfit9 := desk_fit hok
 obtain ⟨hx0, hx7, hfit⟩ := hfit9
 have hlm0 := h.2.len
 have hqe := fun w => eqBack kd a b s w
 have hgu : Tryz.prog.eqGuardType Tryz.prog.depth 55 = false := by kernel_rfl
 simp only [hnb] at hqe
 have hj9 := Lib.hid hj
 clear hj
 have hl := h.1.len
 have hF := DoFr.made w (.slice A n c) (.slice P m d) kd a b s
 have h1 : RdD _ _ A n c xs P m d yss := ⟨h.1.up hF.bel, h.2.up hF.bel⟩
 have K1 := sDeskOk_c A P n c m d xs yss _ h1
 rw [hok] at K1
 obtain ⟨_, k0, k1, _, _⟩ := id hF.two
 go_enter Tryz.func49, Tryz.ntmps49
 go_wp2_with fail
 generalize (((w.alloc (.cells #[.slice A n c, .slice P m d] 26)).alloc (.cells #[.int .i64 kd, .int .i64 a, .int .i64 b, .string s] 55)).alloc (.cells #[.slice none 0 0, .slice none 0 0] 26)) = w1 at *
 refine K1.mono ?_
 rintro e w2 ⟨rfl, hb2⟩
 have hF2 := hF.up hb2
 have h2 : RdD w2 w2.heap.size A n c xs P m d yss := ⟨h1.1.up hb2, h1.2.up hb2⟩
 obtain ⟨_, k0, k1, _, _⟩ := id hF2.two
 clear K1 h1 hF hb2
 go_wp2_with fail
 refine (sCopy_c A P n c m d xs yss _ h2 (by omega) (by omega) hfit).mono ?_
 rintro e w3 ⟨A3, n3, c3, P3, m3, d3, rfl, hO3, hb3⟩
 obtain ⟨hl3, hl3'⟩ := hO3.lens
 have hml : m = m3 := by have := h2.2.len; omega
 have hnl : n = n3 := by omega
 subst hml
 subst hnl
 have hF3 := hF2.up hb3
 have hz3 := hF3.size
 have hz23 := hb3.size
 have hz2 := hF2.size
 obtain ⟨mid, hq1, hq2, hOI, hOR⟩ := hO3
 obtain ⟨b0, A1, n1, c1, glo, ghi, rfl, hbb1, hbb2, hbb3, hcell3, hg1, hg2, hrow, _⟩ := hOR.at_ (j := j) (by have := hj9.out; omega)
 have hbA : Below w3.heap.size w3 (w3.alloc (.cells #[.slice A3 n c3, .slice (some ⟨b0, 0, none⟩) m d3] 26)) := (Below.refl _ _).alloc (Nat.le_refl _) _
 have hT4 := Two.made w3 26 (.slice A3 n c3) (.slice (some ⟨b0, 0, none⟩) m d3)
 have hF4 := hF3.up hbA
 have hOR4 := hOR.up hbA
 have hrow4 := hrow.up hbA
 have hcell := (hbA.cell (p := ⟨b0, j, none⟩) hbb3).trans hcell3
 have hrr := hOR4.rdr
 have hcp := hrr.cap
 have hmx := hrr.max
 unfold maxLen at hmx
 have hbM : Below w3.heap.size w3 (w3.alloc (.cells #[.slice A1 n1 c1, .slice (some ⟨b0, 0, none⟩) j d3] 26)) := (Below.refl _ _).alloc (Nat.le_refl _) _
 have hFG := hF3.up hbM
 have hORM := hOR.up hbM
 have hrowM := hrow.up hbM
 have hend := hFG.endR (A := A1) (n := n1) (c := c1) (P := some ⟨b0, 0, none⟩) (m := j) (d := d3) (xs := gR yss j) (yss := yss.take j) true (fun w' hc => ⟨⟨fun q hq => by have := (hrowM.lt q hq).1; omega, fun q hq => by have e : b0 = q := Option.some.inj hq; omega, fun k b off A' n' c' hk hP hcl q hq => by have := (hORM.chg hc (.inr (by omega))).rows k b off A' n' c' (by have := hj9.out; omega) hP hcl q hq; omega⟩, fun _ => ((hORM.chg hc (.inr (by omega))).rr (B := w.heap.size) (by omega) (by have := hc.size; have := hbM.size; omega)).take_ (by have := hj9.out; omega), (hrowM.chg hc (.inr (by omega))).wide (by omega) (by have := hc.size; have := hbM.size; omega)⟩) (fun w' hc => ⟨(hrowM.chg hc (.inr (by omega))).rd, rdr_take (hORM.chg hc (.inr (by omega))).rdr (by have := hj9.out; omega)⟩)
 have HE := Lib.hid hend
 obtain ⟨_, s0, s1, s2, s3⟩ := id hFG.res
 obtain ⟨_, r0, r1, r2, r3⟩ := id hF4.res
 obtain ⟨_, k0, k1, _, _⟩ := id hF4.two
 obtain ⟨_, q0, q1, q2, q3⟩ := id hF4.four
 obtain ⟨_, t0, t1, t2, t3⟩ := id hT4
 have e1 : (m : Int) - 1 = (j : Int) := by have := hj9.out; omega
 have hM0 : (0 : Int) ≤ (j : Int) := Int.natCast_nonneg _
 have hM1 : (j : Int) < (m : Int) := by have := hj9.out; omega
 have hM3 : ¬ ((j : Int) < 0) := by omega
 have hM2 : (j : Int) ≤ (d3 : Int) := by have := hj9.out; omega
 have hm1 : (0 : Int) < (m : Int) := by have := hj9.out; omega
 have hbne : b0 < w3.heap.size := hbb3
 clear h2 hF2 hb3 hF3 hbA hOI hOR hrow hcell3 hend hOR4 hrow4 hrr hFG hbM hORM hrowM hT4 hF4
 go_wp2_with fail
 (try simp only [Exit.inBlock, Exit.then])
 refine bodyPost_ret (v := .tuple #[.agg #[.slice A1 n1 c1, .slice (some ⟨b0, 0, none⟩) j d3], .bool true]) ?_ rfl HE.out.1
 exact Eq.trans (results_two_tmp (p := 4) (u := 5) rfl _ _ (w.heap.size + 2) _ _ _ rfl HE.out.2 Tryz.underlying26 rfl desk_size) rfl
end
section
open Go.RowKit
set_option maxRecDepth 100000 in
set_option maxHeartbeats 800000 in
theorem s_4 (A P : Option Addr) (n c m d : Nat) (xs : List Int) (yss : List (List Int)) (kd a b : Int) (s : ByteArray) (w : World) (h : RdD w w.heap.size A n c xs P m d yss) (hok : deskOkB xs yss = true) (hs : s.size ≤ 1000000000000) (hnb : isBack kd a b s = false ∨ (isBack kd a b s = true ∧ m = 0)) (hmade : ¬ madeI xs kd a b s = []) (hsame : madeI xs kd a b s = xs) :
    Calls Tryz.prog 49 #[.agg #[.slice A n c, .slice P m d], .agg #[.int .i64 kd, .int .i64 a, .int .i64 b, .string s]] w (DoRd w (xs, yss, false)) := by
 have hmp := (desk_parts hok).1
 have hfit9 := desk_fit hok
 obtain ⟨hx0, hx7, hfit⟩ := hfit9
 have hlm0 := h.2.len
 have hqe := fun w => eqBack kd a b s w
 have hgu : Tryz.prog.eqGuardType Tryz.prog.depth 55 = false := by kernel_rfl
 rcases hnb with hb0 | ⟨hb0, hm0⟩
 all_goals
  (try (have hm1 : ¬ ((0 : Int) < (m : Int)) := by omega))
  (try clear hm0)
  simp only [hb0] at hqe
  have hl := h.1.len
  have hF := DoFr.made w (.slice A n c) (.slice P m d) kd a b s
  have h1 : RdD _ _ A n c xs P m d yss := ⟨h.1.up hF.bel, h.2.up hF.bel⟩
  have K1 := sDeskOk_c A P n c m d xs yss _ h1
  rw [hok] at K1
  obtain ⟨_, k0, k1, _, _⟩ := id hF.two
  go_enter Tryz.func49, Tryz.ntmps49
  go_wp2_with fail
  generalize (((w.alloc (.cells #[.slice A n c, .slice P m d] 26)).alloc (.cells #[.int .i64 kd, .int .i64 a, .int .i64 b, .string s] 55)).alloc (.cells #[.slice none 0 0, .slice none 0 0] 26)) = w1 at *
  refine K1.mono ?_
  rintro e w2 ⟨rfl, hb2⟩
  have hF2 := hF.up hb2
  have h2 : RdD w2 w2.heap.size A n c xs P m d yss := ⟨h1.1.up hb2, h1.2.up hb2⟩
  obtain ⟨_, k0, k1, _, _⟩ := id hF2.two
  clear K1 h1 hF hb2
  go_wp2_with fail
  refine (sCopy_c A P n c m d xs yss _ h2 (by omega) (by omega) hfit).mono ?_
  rintro e w3 ⟨A3, n3, c3, P3, m3, d3, rfl, hO3, hb3⟩
  obtain ⟨hl3, hl3'⟩ := hO3.lens
  have hml : m = m3 := by have := h2.2.len; omega
  have hnl : n = n3 := by omega
  subst hml
  subst hnl
  have hF3 := hF2.up hb3
  have hz3 := hF3.size
  have hz23 := hb3.size
  have hz2 := hF2.size
  have hbA : Below w3.heap.size w3 (w3.alloc (.cells #[.slice A3 n c3, .slice P3 m d3] 26)) := (Below.refl _ _).alloc (Nat.le_refl _) _
  have hT4 := Two.made w3 26 (.slice A3 n c3) (.slice P3 m d3)
  have hY4 := Ty.made w3 #[.slice A3 n c3, .slice P3 m d3]
  have hF4 := hF3.up hbA
  have hO4 := hO3.up hbA
  have h4 : RdD (w3.alloc (.cells #[.slice A3 n c3, .slice P3 m d3] 26)) (w3.alloc (.cells #[.slice A3 n c3, .slice P3 m d3] 26)).heap.size A n c xs P m d yss := ⟨(h2.1.up hb3).up hbA, (h2.2.up hb3).up hbA⟩
  have hzA := hbA.size
  obtain ⟨_, k0, k1, _, _⟩ := id hF4.two
  obtain ⟨_, q0, q1, q2, q3⟩ := id hF4.four
  obtain ⟨_, t0, t1, t2, t3⟩ := id hT4
  clear h2 hF2 hb3 hF3 hbA hO3
  go_wp2_with fail
  generalize w3.alloc (.cells #[.slice A3 n c3, .slice P3 m d3] 26) = w4 at *
  generalize w3.heap.size = G at *
  refine (sMade_c A n c xs kd a b s _ h4.1 hs hmp).mono ?_
  rintro e w5 ⟨A5, n5, c5, rfl, hI5, hb5⟩
  have hF5 := hF4.up hb5
  have hO5 := hO4.up hb5
  have hT5 := hT4.up hb5
  have hY5 := hY4.up hb5
  have h5 : RdD w5 w5.heap.size A n c xs P m d yss := ⟨h4.1.up hb5, h4.2.up hb5⟩
  have hz5 := hb5.size
  have hl5 := hI5.len
  obtain ⟨_, k0, k1, _, _⟩ := id hF5.two
  obtain ⟨_, t0, t1, t2, t3⟩ := id hT5
  have hof := madeI_of kd a b s hmp
  have h5n : n = n5 := by
   rcases hof with e | ⟨_, e⟩
   · exact absurd e hmade
   · omega
  subst h5n
  have hn0 : 0 < n := by omega
  have hnz : ((n : Int) == 0) = false := by rw [beq_eq_false_iff_ne]; omega
  have HFR := Lib.hid hF5
  have HOR := Lib.hid hO5
  have HT5 := Lib.hid hT5
  have hIr := hI5.rd
  have hNr := h5.1
  clear hof
  have hqs : eqB (madeI xs kd a b s) xs = true := decide_eq_true hsame
  clear hF4 hO4 hb5 h5 h4 hI5 hF5 hO5
  go_wp2_with fail
  have KS := l6Same_c A5 A n c5 c _ _ w5 hIr hNr
  rw [hqs] at KS
  clear hqs
  refine KS.mono ?_
  rintro e w6 ⟨rfl, q, rfl⟩
  clear KS
  have hF6 := HFR.out.dn q
  have hend := hF6.endR (A := A3) (P := P3) (n := n) (c := c3) (m := m) (d := d3) (xs := xs) (yss := yss) false (fun w' hc => ⟨((HOR.out.dn q).chg hc (.inr (by omega))).fresh.more (by omega), fun _ => ((HOR.out.dn q).chg hc (.inr (by omega))).rrD (by omega) (by have := hc.size; have : (w5.drewN q).heap.size = w5.heap.size := rfl; omega), ((HOR.out.dn q).chg hc (.inr (by omega))).now_ (by omega) (by have := hc.size; have : (w5.drewN q).heap.size = w5.heap.size := rfl; omega)⟩) (fun w' hc => ((HOR.out.dn q).chg hc (.inr (by omega))).rd)
  obtain ⟨_, r0, r1, r2, r3⟩ := id hF6.res
  obtain ⟨_, k0, k1, _, _⟩ := id hF6.two
  have hTq : Two (w5.drewN q) G (.slice A3 n c3) (.slice P3 m d3) := HT5.out
  obtain ⟨_, t0, t1, t2, t3⟩ := id hTq
  have HE := Lib.hid hend
  clear hend
  go_wp2_with fail
  (try simp only [Exit.inBlock, Exit.then])
  refine bodyPost_ret (v := .tuple #[.agg #[.slice A3 n c3, .slice P3 m d3], .bool false]) ?_ rfl HE.out.1
  exact Eq.trans (results_two_tmp (p := 4) (u := 5) rfl _ _ (w.heap.size + 2) _ _ _ rfl HE.out.2 Tryz.underlying26 rfl desk_size) rfl
end
section
open Go.RowKit
theorem OwnRR.lt6 {w : World} {B : Nat} {v : Value} {yss : List (List Int)} (h : OwnRR w B v yss) : ∀ g, v.ownBlock = some g → B ≤ g := by
 obtain ⟨vs, hv, _⟩ := h
 exact fun g hg => (hv.lt g hg).1
theorem OwnRR.rdr {w : World} {B : Nat} {P : Option Addr} {m d : Nat} {yss : List (List Int)} (h : OwnRR w B (.slice P m d) yss) : RdR w w.heap.size P m d yss := by
 obtain ⟨A', c', e, hr⟩ := h.form
 cases e
 exact hr
set_option maxRecDepth 100000 in
set_option maxHeartbeats 800000 in
theorem s_5 (A P : Option Addr) (n c m d : Nat) (xs : List Int) (yss : List (List Int)) (kd a b : Int) (s : ByteArray) (w : World) (h : RdD w w.heap.size A n c xs P m d yss) (hok : deskOkB xs yss = true) (hs : s.size ≤ 1000000000000) (hnb : isBack kd a b s = false ∨ (isBack kd a b s = true ∧ m = 0)) (hmade : ¬ madeI xs kd a b s = []) (hsame : ¬ madeI xs kd a b s = xs) (Q : Nat) (hQ : Q = m + 1) (hm : m < 8) :
    Calls Tryz.prog 49 #[.agg #[.slice A n c, .slice P m d], .agg #[.int .i64 kd, .int .i64 a, .int .i64 b, .string s]] w (DoRd w (madeI xs kd a b s, yss ++ [xs], true)) := by
 have hmp := (desk_parts hok).1
 have hfit9 := desk_fit hok
 obtain ⟨hx0, hx7, hfit⟩ := hfit9
 have hlm0 := h.2.len
 have hqe := fun w => eqBack kd a b s w
 have hgu : Tryz.prog.eqGuardType Tryz.prog.depth 55 = false := by kernel_rfl
 have HQ : Hid ((yss ++ [xs]).length = Q) := Lib.hid (by rw [List.length_append, h.2.len, hQ]; rfl)
 have hq8 : ¬ ((8 : Int) < (Q : Int)) := by omega
 clear hQ
 rcases hnb with hb0 | ⟨hb0, hm0⟩
 all_goals
  (try (have hm1 : ¬ ((0 : Int) < (m : Int)) := by omega))
  (try clear hm0)
  simp only [hb0] at hqe
  have hl := h.1.len
  have hF := DoFr.made w (.slice A n c) (.slice P m d) kd a b s
  have h1 : RdD _ _ A n c xs P m d yss := ⟨h.1.up hF.bel, h.2.up hF.bel⟩
  have K1 := sDeskOk_c A P n c m d xs yss _ h1
  rw [hok] at K1
  obtain ⟨_, k0, k1, _, _⟩ := id hF.two
  go_enter Tryz.func49, Tryz.ntmps49
  go_wp2_with fail
  generalize (((w.alloc (.cells #[.slice A n c, .slice P m d] 26)).alloc (.cells #[.int .i64 kd, .int .i64 a, .int .i64 b, .string s] 55)).alloc (.cells #[.slice none 0 0, .slice none 0 0] 26)) = w1 at *
  refine K1.mono ?_
  rintro e w2 ⟨rfl, hb2⟩
  have hF2 := hF.up hb2
  have h2 : RdD w2 w2.heap.size A n c xs P m d yss := ⟨h1.1.up hb2, h1.2.up hb2⟩
  obtain ⟨_, k0, k1, _, _⟩ := id hF2.two
  clear K1 h1 hF hb2
  go_wp2_with fail
  refine (sCopy_c A P n c m d xs yss _ h2 (by omega) (by omega) hfit).mono ?_
  rintro e w3 ⟨A3, n3, c3, P3, m3, d3, rfl, hO3, hb3⟩
  obtain ⟨hl3, hl3'⟩ := hO3.lens
  have hml : m = m3 := by have := h2.2.len; omega
  have hnl : n = n3 := by omega
  subst hml
  subst hnl
  have hF3 := hF2.up hb3
  have hz3 := hF3.size
  have hz23 := hb3.size
  have hz2 := hF2.size
  have hbA : Below w3.heap.size w3 (w3.alloc (.cells #[.slice A3 n c3, .slice P3 m d3] 26)) := (Below.refl _ _).alloc (Nat.le_refl _) _
  have hT4 := Two.made w3 26 (.slice A3 n c3) (.slice P3 m d3)
  have hY4 := Ty.made w3 #[.slice A3 n c3, .slice P3 m d3]
  have hF4 := hF3.up hbA
  have hO4 := hO3.up hbA
  have h4 : RdD (w3.alloc (.cells #[.slice A3 n c3, .slice P3 m d3] 26)) (w3.alloc (.cells #[.slice A3 n c3, .slice P3 m d3] 26)).heap.size A n c xs P m d yss := ⟨(h2.1.up hb3).up hbA, (h2.2.up hb3).up hbA⟩
  have hzA := hbA.size
  obtain ⟨_, k0, k1, _, _⟩ := id hF4.two
  obtain ⟨_, q0, q1, q2, q3⟩ := id hF4.four
  obtain ⟨_, t0, t1, t2, t3⟩ := id hT4
  clear h2 hF2 hb3 hF3 hbA hO3
  go_wp2_with fail
  generalize w3.alloc (.cells #[.slice A3 n c3, .slice P3 m d3] 26) = w4 at *
  generalize w3.heap.size = G at *
  refine (sMade_c A n c xs kd a b s _ h4.1 hs hmp).mono ?_
  rintro e w5 ⟨A5, n5, c5, rfl, hI5, hb5⟩
  have hF5 := hF4.up hb5
  have hO5 := hO4.up hb5
  have hT5 := hT4.up hb5
  have hY5 := hY4.up hb5
  have h5 : RdD w5 w5.heap.size A n c xs P m d yss := ⟨h4.1.up hb5, h4.2.up hb5⟩
  have hz5 := hb5.size
  have hl5 := hI5.len
  obtain ⟨_, k0, k1, _, _⟩ := id hF5.two
  obtain ⟨_, t0, t1, t2, t3⟩ := id hT5
  have hof := madeI_of kd a b s hmp
  have h5n : n = n5 := by
   rcases hof with e | ⟨_, e⟩
   · exact absurd e hmade
   · omega
  subst h5n
  have hn0 : 0 < n := by omega
  have hnz : ((n : Int) == 0) = false := by rw [beq_eq_false_iff_ne]; omega
  have HFR := Lib.hid hF5
  have HOR := Lib.hid hO5
  have HT5 := Lib.hid hT5
  have hIr := hI5.rd
  have hNr := h5.1
  clear hof
  have hqs : eqB (madeI xs kd a b s) xs = false := decide_eq_false hsame
  have hlG := hT5.1
  obtain ⟨mid, hq1, hq2, hOI, hOR⟩ := hO5
  have hRR : OwnRR w5 (w.heap.size + 3) (.slice P3 m d3) yss := hOR.rr (by omega) (by omega)
  have hNow : OwnIn w5 (w.heap.size + 3) w5.heap.size A3 n c3 xs := hOI.wide (by omega) (by omega)
  have hG4 : G < w4.heap.size := hT4.1
  clear hF4 hO4 hb5 h5 h4 hOI hOR HFR HOR hT4
  go_wp2_with fail
  have KS := l6Same_c A5 A n c5 c _ _ w5 hIr hNr
  rw [hqs] at KS
  refine KS.mono ?_
  rintro e w6 ⟨rfl, q, rfl⟩
  clear KS
  have hRRq := hRR.dn q
  have hNowq := hNow.dn q
  have hFq := hF5.dn q
  have hTq : Two (w5.drewN q) G (.slice A3 n c3) (.slice P3 m d3) := hT5
  have hYq : Ty (w5.drewN q) G := hY5
  have hIq := hI5.dn q
  obtain ⟨vs, hv, _⟩ := id hRRq
  have hneG := hYq.ne hv (by decide)
  have hneI := ne_outer hv hIq
  have hz5q : (w5.drewN q).heap.size = w5.heap.size := rfl
  have hzq := hFq.size
  have hyl : yss.length ≤ 1000000000 := by omega
  clear hRR hNow hF5 hT5 hY5 hI5 hIr hNr hqs
  obtain ⟨_, t0, t1, t2, t3⟩ := id hTq
  obtain ⟨_, k0, k1, _, _⟩ := id hFq.two
  go_wp2_with (
   at_builtin; refine app_rg (w5.drewN q) A3 n c3 rfl _ _ rfl (w.heap.size + 3) _ yss rfl hRRq rfl xs hNowq hyl (by omega) ?_; intro v6 w6 hO6 hg6
   have hbA5 : Below (w5.drewN q).heap.size (w5.drewN q) ((w5.drewN q).alloc (.cells #[.slice A3 n c3] 23)) := (Below.refl _ _).alloc (Nat.le_refl _) _
   have hT6 := (hTq.up hbA5).grown hg6 hneG
   have hYA := hYq.up hbA5
   have hY6 : Ty w6 G := hYA.of (hg6.block G hYA.lt (fun e => hneG e.symm))
   have hF6 := (hFq.up hbA5).below ((Below.refl (w.heap.size + 3) _).grown hg6 (Nat.le_trans hzq hbA5.size) (fun k hk => (hv.lt k hk).1)) (Nat.le_refl _)
   have hI6 := (hIq.up hbA5).grown hg6 hneI
   have hz6 := hF6.size
   have hO6' := hO6.form
   obtain ⟨P6, d6, rfl, hro6⟩ := hO6'
   rw [HQ.out] at hO6 hro6 ⊢
   have hcp6 := hro6.cap
   have hmx6 := hro6.max
   unfold maxLen at hmx6
   have hcG : Chg G (G + 1) w6 ((w6.setCell ⟨G, 1, none⟩ (.slice P6 Q d6)).setCell ⟨G, 0, none⟩ (.slice A5 n c5)) := (((Chg.refl G (G + 1) w6).setCell (p := ⟨G, 1, none⟩) (Nat.le_refl _) (Nat.lt_succ_self _) _).setCell (p := ⟨G, 0, none⟩) (Nat.le_refl _) (Nat.lt_succ_self _) _)
   have hFG := hF6.chgG hcG hz3
   have hend := hFG.endR (A := A5) (n := n) (c := c5) (P := P6) (m := Q) (d := d6) (xs := madeI xs kd a b s) (yss := yss ++ [xs]) true (fun w' hc => ⟨(((hO6.ty hY6 hcG).chg hc (Nat.le_refl _)).fresh ((hI6.chg hcG (.inr (by omega))).chg hc (.inr (by omega))) (by omega)).more (by omega), fun _ => ((hO6.ty hY6 hcG).chg hc (Nat.le_refl _)).moreB (by omega), ((hI6.chg hcG (.inr (by omega))).chg hc (.inr (by omega))).wide (by omega) (by have := hc.size; have := hcG.size; have := hg6.size; have := hbA5.size; omega)⟩) (fun w' hc => ⟨((hI6.chg hcG (.inr (by omega))).chg hc (.inr (by omega))).rd, ((hO6.ty hY6 hcG).chg hc (Nat.le_refl _)).rdr⟩)
   have HE := Lib.hid hend
   obtain ⟨_, r0, r1, r2, r3⟩ := id hF6.res
   obtain ⟨_, k0, k1, _, _⟩ := id hF6.two
   obtain ⟨_, q0, q1, q2, q3⟩ := id hF6.four
   obtain ⟨_, t0, t1, t2, t3⟩ := id hT6
   clear hend hFG hcG hF6 hI6 hT6 hO6 hro6 hRRq hNowq hFq hTq hYq hIq hbA5 hYA hY6 hg6 hv hneI hneG)
  (try simp only [Exit.inBlock, Exit.then])
  refine bodyPost_ret (v := .tuple #[.agg #[.slice A5 n c5, .slice P6 Q d6], .bool true]) ?_ rfl HE.out.1
  exact Eq.trans (results_two_tmp (p := 4) (u := 5) rfl _ _ (w.heap.size + 2) _ _ _ rfl HE.out.2 Tryz.underlying26 rfl desk_size) rfl
end
section
open Go.RowKit
set_option maxRecDepth 100000 in
set_option maxHeartbeats 3200000 in
theorem s_6 (A P : Option Addr) (n c m d : Nat) (xs : List Int) (yss : List (List Int)) (kd a b : Int) (s : ByteArray) (w : World) (h : RdD w w.heap.size A n c xs P m d yss) (hok : deskOkB xs yss = true) (hs : s.size ≤ 1000000000000) (hnb : isBack kd a b s = false ∨ (isBack kd a b s = true ∧ m = 0)) (hmade : ¬ madeI xs kd a b s = []) (hsame : ¬ madeI xs kd a b s = xs) (hm : m = 8) :
    Calls Tryz.prog 49 #[.agg #[.slice A n c, .slice P m d], .agg #[.int .i64 kd, .int .i64 a, .int .i64 b, .string s]] w (DoRd w (madeI xs kd a b s, (yss ++ [xs]).drop 1, true)) := by
 have hmp := (desk_parts hok).1
 have hfit9 := desk_fit hok
 obtain ⟨hx0, hx7, hfit⟩ := hfit9
 have hlm0 := h.2.len
 have hqe := fun w => eqBack kd a b s w
 have hgu : Tryz.prog.eqGuardType Tryz.prog.depth 55 = false := by kernel_rfl
 have HQ : Hid ((yss ++ [xs]).length = 9) := Lib.hid (by rw [List.length_append, h.2.len, hm]; rfl)
 have hm8 : m ≤ 8 := by omega
 clear hm
 rcases hnb with hb0 | ⟨hb0, hm0⟩
 all_goals
  (try (have hm1 : ¬ ((0 : Int) < (m : Int)) := by omega))
  (try clear hm0)
  simp only [hb0] at hqe
  have hl := h.1.len
  have hF := DoFr.made w (.slice A n c) (.slice P m d) kd a b s
  have h1 : RdD _ _ A n c xs P m d yss := ⟨h.1.up hF.bel, h.2.up hF.bel⟩
  have K1 := sDeskOk_c A P n c m d xs yss _ h1
  rw [hok] at K1
  obtain ⟨_, k0, k1, _, _⟩ := id hF.two
  go_enter Tryz.func49, Tryz.ntmps49
  go_wp2_with fail
  generalize (((w.alloc (.cells #[.slice A n c, .slice P m d] 26)).alloc (.cells #[.int .i64 kd, .int .i64 a, .int .i64 b, .string s] 55)).alloc (.cells #[.slice none 0 0, .slice none 0 0] 26)) = w1 at *
  refine K1.mono ?_
  rintro e w2 ⟨rfl, hb2⟩
  have hF2 := hF.up hb2
  have h2 : RdD w2 w2.heap.size A n c xs P m d yss := ⟨h1.1.up hb2, h1.2.up hb2⟩
  obtain ⟨_, k0, k1, _, _⟩ := id hF2.two
  clear K1 h1 hF hb2
  go_wp2_with fail
  refine (sCopy_c A P n c m d xs yss _ h2 (by omega) (by omega) hfit).mono ?_
  rintro e w3 ⟨A3, n3, c3, P3, m3, d3, rfl, hO3, hb3⟩
  obtain ⟨hl3, hl3'⟩ := hO3.lens
  have hml : m = m3 := by have := h2.2.len; omega
  have hnl : n = n3 := by omega
  subst hml
  subst hnl
  have hF3 := hF2.up hb3
  have hz3 := hF3.size
  have hz23 := hb3.size
  have hz2 := hF2.size
  have hbA : Below w3.heap.size w3 (w3.alloc (.cells #[.slice A3 n c3, .slice P3 m d3] 26)) := (Below.refl _ _).alloc (Nat.le_refl _) _
  have hT4 := Two.made w3 26 (.slice A3 n c3) (.slice P3 m d3)
  have hY4 := Ty.made w3 #[.slice A3 n c3, .slice P3 m d3]
  have hF4 := hF3.up hbA
  have hO4 := hO3.up hbA
  have h4 : RdD (w3.alloc (.cells #[.slice A3 n c3, .slice P3 m d3] 26)) (w3.alloc (.cells #[.slice A3 n c3, .slice P3 m d3] 26)).heap.size A n c xs P m d yss := ⟨(h2.1.up hb3).up hbA, (h2.2.up hb3).up hbA⟩
  have hzA := hbA.size
  obtain ⟨_, k0, k1, _, _⟩ := id hF4.two
  obtain ⟨_, q0, q1, q2, q3⟩ := id hF4.four
  obtain ⟨_, t0, t1, t2, t3⟩ := id hT4
  clear h2 hF2 hb3 hF3 hbA hO3
  go_wp2_with fail
  generalize w3.alloc (.cells #[.slice A3 n c3, .slice P3 m d3] 26) = w4 at *
  generalize w3.heap.size = G at *
  refine (sMade_c A n c xs kd a b s _ h4.1 hs hmp).mono ?_
  rintro e w5 ⟨A5, n5, c5, rfl, hI5, hb5⟩
  have hF5 := hF4.up hb5
  have hO5 := hO4.up hb5
  have hT5 := hT4.up hb5
  have hY5 := hY4.up hb5
  have h5 : RdD w5 w5.heap.size A n c xs P m d yss := ⟨h4.1.up hb5, h4.2.up hb5⟩
  have hz5 := hb5.size
  have hl5 := hI5.len
  obtain ⟨_, k0, k1, _, _⟩ := id hF5.two
  obtain ⟨_, t0, t1, t2, t3⟩ := id hT5
  have hof := madeI_of kd a b s hmp
  have h5n : n = n5 := by
   rcases hof with e | ⟨_, e⟩
   · exact absurd e hmade
   · omega
  subst h5n
  have hn0 : 0 < n := by omega
  have hnz : ((n : Int) == 0) = false := by rw [beq_eq_false_iff_ne]; omega
  have HFR := Lib.hid hF5
  have HOR := Lib.hid hO5
  have HT5 := Lib.hid hT5
  have hIr := hI5.rd
  have hNr := h5.1
  clear hof
  have hqs : eqB (madeI xs kd a b s) xs = false := decide_eq_false hsame
  have hlG := hT5.1
  obtain ⟨mid, hq1, hq2, hOI, hOR⟩ := hO5
  have hRR : OwnRR w5 (w.heap.size + 3) (.slice P3 m d3) yss := hOR.rr (by omega) (by omega)
  have hNow : OwnIn w5 (w.heap.size + 3) w5.heap.size A3 n c3 xs := hOI.wide (by omega) (by omega)
  have hG4 : G < w4.heap.size := hT4.1
  clear hF4 hO4 hb5 h5 h4 hOI hOR HFR HOR hT4
  go_wp2_with fail
  have KS := l6Same_c A5 A n c5 c _ _ w5 hIr hNr
  rw [hqs] at KS
  refine KS.mono ?_
  rintro e w6 ⟨rfl, q, rfl⟩
  clear KS
  have hRRq := hRR.dn q
  have hNowq := hNow.dn q
  have hFq := hF5.dn q
  have hTq : Two (w5.drewN q) G (.slice A3 n c3) (.slice P3 m d3) := hT5
  have hYq : Ty (w5.drewN q) G := hY5
  have hIq := hI5.dn q
  obtain ⟨vs, hv, _⟩ := id hRRq
  have hneG := hYq.ne hv (by decide)
  have hneI := ne_outer hv hIq
  have hz5q : (w5.drewN q).heap.size = w5.heap.size := rfl
  have hzq := hFq.size
  have hyl : yss.length ≤ 1000000000 := by omega
  clear hRR hNow hF5 hT5 hY5 hI5 hIr hNr hqs
  obtain ⟨_, t0, t1, t2, t3⟩ := id hTq
  obtain ⟨_, k0, k1, _, _⟩ := id hFq.two
  go_wp2_with (
   at_builtin; refine app_rg (w5.drewN q) A3 n c3 rfl _ _ rfl (w.heap.size + 3) _ yss rfl hRRq rfl xs hNowq hyl (by omega) ?_; intro v6 w6 hO6 hg6
   have hbA5 : Below (w5.drewN q).heap.size (w5.drewN q) ((w5.drewN q).alloc (.cells #[.slice A3 n c3] 23)) := (Below.refl _ _).alloc (Nat.le_refl _) _
   have hT6 := (hTq.up hbA5).grown hg6 hneG
   have hYA := hYq.up hbA5
   have hY6 : Ty w6 G := hYA.of (hg6.block G hYA.lt (fun e => hneG e.symm))
   have hF6 := (hFq.up hbA5).below ((Below.refl (w.heap.size + 3) _).grown hg6 (Nat.le_trans hzq hbA5.size) (fun k hk => (hv.lt k hk).1)) (Nat.le_refl _)
   have hI6 := (hIq.up hbA5).grown hg6 hneI
   have hz6 := hF6.size
   have hO6' := hO6.form
   obtain ⟨P6, d6, rfl, hro6⟩ := hO6'
   rw [HQ.out] at hO6 hro6 ⊢
   have hcp6 := hro6.cap
   have hmx6 := hro6.max
   unfold maxLen at hmx6
   obtain ⟨b6, off6, rfl, _, _⟩ := hro6.2.2.2 (by omega)
   have hd1 : ¬ d6 = 1 := by omega
   have hd2 : (d6 == 1) = false := beq_eq_false_iff_ne.2 hd1
   have hd3 : (1 : Int) ≤ (d6 : Int) := by omega
   have hcG : Chg G (G + 1) w6 (((w6.setCell ⟨G, 1, none⟩ (.slice (some ⟨b6, off6, none⟩) 9 d6)).setCell ⟨G, 1, none⟩ (.slice (some ⟨b6, off6 + 1, none⟩) 8 (d6 - 1))).setCell ⟨G, 0, none⟩ (.slice A5 n c5)) := ((((Chg.refl G (G + 1) w6).setCell (p := ⟨G, 1, none⟩) (Nat.le_refl _) (Nat.lt_succ_self _) _).setCell (p := ⟨G, 1, none⟩) (Nat.le_refl _) (Nat.lt_succ_self _) _).setCell (p := ⟨G, 0, none⟩) (Nat.le_refl _) (Nat.lt_succ_self _) _)
   have hFG := hF6.chgG hcG hz3
   have hend := hFG.endR (A := A5) (n := n) (c := c5) (P := some ⟨b6, off6 + 1, none⟩) (m := 8) (d := d6 - 1) (xs := madeI xs kd a b s) (yss := (yss ++ [xs]).drop 1) true (fun w' hc => ⟨FreshD.drop (d := d6 - 1) (by rw [show d6 - 1 + 1 = d6 by omega]; exact (((hO6.ty hY6 hcG).chg hc (Nat.le_refl _)).fresh ((hI6.chg hcG (.inr (by omega))).chg hc (.inr (by omega))) (by omega)).more (by omega)), (fun hl => by have h9 := HQ.out; rw [List.length_drop] at hl; omega), ((hI6.chg hcG (.inr (by omega))).chg hc (.inr (by omega))).wide (by omega) (by have := hc.size; have := hcG.size; have := hg6.size; have := hbA5.size; omega)⟩) (fun w' hc => ⟨((hI6.chg hcG (.inr (by omega))).chg hc (.inr (by omega))).rd, rdr_drop ((hO6.ty hY6 hcG).chg hc (Nat.le_refl _)).rdr⟩)
   have HE := Lib.hid hend
   obtain ⟨_, r0, r1, r2, r3⟩ := id hF6.res
   obtain ⟨_, k0, k1, _, _⟩ := id hF6.two
   obtain ⟨_, q0, q1, q2, q3⟩ := id hF6.four
   obtain ⟨_, t0, t1, t2, t3⟩ := id hT6
   clear hend hFG hcG hF6 hI6 hT6 hO6 hro6 hRRq hNowq hFq hTq hYq hIq hbA5 hYA hY6 hg6 hv hneI hneG)
  (try simp only [Exit.inBlock, Exit.then])
  refine bodyPost_ret (v := .tuple #[.agg #[.slice A5 n c5, .slice (some ⟨b6, off6 + 1, none⟩) 8 (d6 - 1)], .bool true]) ?_ rfl HE.out.1
  exact Eq.trans (results_two_tmp (p := 4) (u := 5) rfl _ _ (w.heap.size + 2) _ _ _ rfl HE.out.2 Tryz.underlying26 rfl desk_size) rfl
end
section
open Go.RowKit
theorem back_is {yss : List (List Int)} {kd a b : Int} {s : ByteArray} : backB yss kd a b s = (isBack kd a b s && decide (yss ≠ [])) := rfl
theorem sDeskDo_c (A P : Option Addr) (n c m d : Nat) (xs : List Int) (yss : List (List Int)) (kd a b : Int) (s : ByteArray) (w : World) (h : RdD w w.heap.size A n c xs P m d yss) (hs : s.size ≤ 1000000000000) :
    Calls Tryz.prog 49 #[.agg #[.slice A n c, .slice P m d], .agg #[.int .i64 kd, .int .i64 a, .int .i64 b, .string s]] w (DoRd w (doX xs yss kd a b s)) := by
 rcases hok : deskOkB xs yss with _ | _
 · rw [do_no hok]; exact s_1 A P n c m d xs yss kd a b s w h hok
 have hl := h.2.len
 rcases hb : backB yss kd a b s with _ | _
 · have hnb : isBack kd a b s = false ∨ (isBack kd a b s = true ∧ m = 0) := by
    rcases hi : isBack kd a b s with _ | _
    · exact .inl rfl
    · right
      refine ⟨rfl, ?_⟩
      rw [back_is, hi, Bool.true_and] at hb
      have : yss = [] := by
       rcases yss with _ | ⟨y, r⟩
       · rfl
       · simp at hb
      rw [this] at hl
      exact hl.symm
   by_cases hmade : madeI xs kd a b s = []
   · rw [do_stay hok hb (stay_nil hmade)]
     exact s_3 A P n c m d xs yss kd a b s w h hok hs hnb hmade
   by_cases hsame : madeI xs kd a b s = xs
   · rw [do_stay hok hb (stay_same hsame)]
     exact s_4 A P n c m d xs yss kd a b s w h hok hs hnb hmade hsame
   have h8 := (desk_parts hok).2.1
   rw [do_go hok hb (stay_not hmade hsame)]
   by_cases h7 : m < 8
   · rw [past_lt (by omega)]
     exact s_5 A P n c m d xs yss kd a b s w h hok hs hnb hmade hsame _ rfl h7
   · rw [past_ge (by omega)]
     exact s_6 A P n c m d xs yss kd a b s w h hok hs hnb hmade hsame (by omega)
 · rw [do_back hok hb]
   obtain ⟨hk, ha, hb0, hs0, hy⟩ := back_iff.1 hb
   have hm : 0 < m := by
    rcases Nat.eq_zero_or_pos m with e | e
    · rw [e] at hl; exact absurd (List.length_eq_zero_iff.1 hl) hy
    · exact e
   have hi : isBack kd a b s = true := by
    rw [back_is, Bool.and_eq_true] at hb; exact hb.1
   rw [hl]
   exact s_2 A P n c m d xs yss kd a b s w h hok hs hi (m - 1) (by omega)
end
section
open Go.RowKit
section
variable {w w' : World} {B lo hi n c m d : Nat} {A P : Option Addr} {xs : List Int} {yss : List (List Int)}
end
theorem load_four {P : Program} {ty : TypeId} {w : World} {g : Nat} {x y z u : Value} {d : TypeDesc} (h : w.cell? ⟨g, 0, none⟩ = some x ∧ w.cell? ⟨g, 1, none⟩ = some y ∧ w.cell? ⟨g, 2, none⟩ = some z ∧ w.cell? ⟨g, 3, none⟩ = some u) (hu : P.underlying ty = some d) (hd : isS d = true) (hi : (P.info? ty).map (·.size) = some 4) :
    (loadVar ty ⟨g, 0, none⟩).run P w = .ok (.agg #[x, y, z, u]) w := by
 have hl : (loadCells ⟨g, 0, none⟩ [x, y, z, u].length).run P w = .ok [x, y, z, u].toArray w :=
  run_loadCells_list (P := P) w ⟨g, 0, none⟩ [x, y, z, u] (fun j v hv => by
   have hadd : (⟨g, 0, none⟩ : Addr).add j = ⟨g, j, none⟩ := by unfold Addr.add; split <;> simp_all
   rw [hadd]
   match j, hv with
   | 0, hv => simp at hv; subst hv; exact h.1
   | 1, hv => simp at hv; subst hv; exact h.2.1
   | 2, hv => simp at hv; subst hv; exact h.2.2.1
   | 3, hv => simp at hv; subst hv; exact h.2.2.2
   | j + 4, hv => simp at hv)
 cases hq : P.info? ty with
 | none => simp [hq] at hi
 | some i =>
  have hs : i.size = 4 := by simpa [hq] using hi
  have hagg : (isAgg ty).run P w = .ok true w := by
   unfold isAgg
   rw [Sem.run_bind, run_underlying hu w]
   cases d <;> simp_all [isS]
  simp only [List.length_cons, List.length_nil] at hl
  simp [loadVar, Sem.run_bind, hagg, sizeOf, typeInfo, hq, hs, hl]
theorem deed_size : (Tryz.prog.info? 55).map (·.size) = some 4 := by kernel_rfl
theorem results_four {fn : Func} {p : Tmp} {ty : TypeId} {P : Program} (h : fn.results = #[.cell p ty]) (tmps : Array Value) (w : World) (g : Nat) (x y z u : Value) (d : TypeDesc)
    (hp : tmps.getD p undef = .pointer (some ⟨g, 0, none⟩)) (hg : w.cell? ⟨g, 0, none⟩ = some x ∧ w.cell? ⟨g, 1, none⟩ = some y ∧ w.cell? ⟨g, 2, none⟩ = some z ∧ w.cell? ⟨g, 3, none⟩ = some u) (hu : P.underlying ty = some d) (hd : isS d = true) (hi : (P.info? ty).map (·.size) = some 4) :
    (results fn tmps).run P w = .ok (.agg #[x, y, z, u]) w := by
 have hp' : tmps[p]?.getD undef = .pointer (some ⟨g, 0, none⟩) := by simpa using hp
 simp [results, h, hp', asAddr, load_four hg hu hd hi]
theorem results_four_tmp {fn : Func} {p r : Tmp} {ty : TypeId} {P : Program} (h : fn.results = #[.cell p ty, .tmp r]) (tmps : Array Value) (w : World) (g : Nat) (x y z u : Value) (d : TypeDesc)
    (hp : tmps.getD p undef = .pointer (some ⟨g, 0, none⟩)) (hg : w.cell? ⟨g, 0, none⟩ = some x ∧ w.cell? ⟨g, 1, none⟩ = some y ∧ w.cell? ⟨g, 2, none⟩ = some z ∧ w.cell? ⟨g, 3, none⟩ = some u) (hu : P.underlying ty = some d) (hd : isS d = true) (hi : (P.info? ty).map (·.size) = some 4) :
    (results fn tmps).run P w = .ok (.tuple #[.agg #[x, y, z, u], tmps.getD r undef]) w := by
 have hp' : tmps[p]?.getD undef = .pointer (some ⟨g, 0, none⟩) := by simpa using hp
 rw [results_cell_tmp h]
 simp [hp', asAddr, load_four hg hu hd hi, Result.andThen]
end
section
open Go.RowKit
theorem tot_fit {yss : List (List Int)} (h : Fit yss) (h8 : yss.length ≤ 8) : tot yss ≤ 56 := by
 have : ∀ (l : List (List Int)), (∀ k, k < l.length → (gR l k).length ≤ 7) → tot l ≤ 7 * l.length := by
  intro l
  induction l with
  | nil => intro _; simp [tot]
  | cons x r ih =>
   intro hl
   have h0 : x.length ≤ 7 := hl 0 (by simp)
   have h1 := ih (fun k hk => hl (k + 1) (by simpa using hk))
   have e : tot (x :: r) = x.length + tot r := by simp [tot]
   rw [e, List.length_cons]; omega
 have := this yss (fun k hk => (h.2 k hk).2)
 omega
theorem below_of_alloc {w w' : World} {o : Obj} (h : Below (w.alloc o).heap.size (w.alloc o) w') : Below w.heap.size w w' :=
 ((Below.refl _ _).alloc (Nat.le_refl _) o).trans (h.mono (by simp))
theorem below_new (w : World) (o : Obj) : Below w.heap.size w (w.alloc o) := (Below.refl _ _).alloc (Nat.le_refl _) o
theorem Rd.set_ {w : World} {B n c : Nat} {A : Option Addr} {xs : List Int} (h : Rd w B A n c xs) {p : Addr} {A' : Option Addr} {n' c' : Nat} (hp : w.cell? p = some (.slice A' n' c')) (v : Value) : Rd (w.setCell p v) B A n c xs :=
 ⟨h.1, h.2.1, h.2.2.1, fun hn => by
  obtain ⟨b, off, e, hb, hc⟩ := h.2.2.2 hn
  refine ⟨b, off, e, hb, fun k hk => ?_⟩
  rw [World.cell?_setCell_other _ _ _ _ (by intro e'; have := hc k hk; rw [← e', hp] at this; cases this)]
  exact hc k hk⟩
theorem RdR.set_ {w : World} {B n c : Nat} {A : Option Addr} {xss : List (List Int)} (h : RdR w B A n c xss) (hf : ∀ k, k < xss.length → 0 < (gR xss k).length) {p : Addr} (hp : w.cell? p = some (.slice none 0 0)) (v : Value) : RdR (w.setCell p v) B A n c xss :=
 ⟨h.1, h.2.1, h.2.2.1, fun hn => by
  obtain ⟨b, off, e, hb, hc⟩ := h.2.2.2 hn
  refine ⟨b, off, e, hb, fun k hk => ?_⟩
  obtain ⟨A', n', c', h1, h2⟩ := hc k hk
  refine ⟨A', n', c', ?_, h2.set_ hp v⟩
  rw [World.cell?_setCell_other _ _ _ _ (by intro e'; rw [← e', hp] at h1; cases h1; have := hf k (by rw [h.1]; exact hk); rw [h2.1] at this; omega)]
  exact h1⟩
section
variable {wj wx : World} {A P : Option Addr} {n c m d g lo hi : Nat} {r1 : List Int} {r2 : List (List Int)} {r3 : Bool}
end
def Rows0 (r2 : List (List Int)) : Prop := ∀ k, k < r2.length → 0 < (gR r2 k).length
end
end Go.Proofs.YtoinlkdmfclnbaaGreatDoor
