/- Words for rows of rows of numbers, and walks over them: eqIntSS, szIntS, szIntSS, toIntSS (laws). · Walks: toIntSS, and the Desk's helpers szDesk, toDesk, eqDesk (laws), DeskOk (impl and spec). · Walks: DeskOk (impl and spec); the law FnExactDeskOk (walk). · Walks: slices.Clone at []int, DeskNew (impl and spec), sameRows, sameDesk, noDesk; the law FnDeskNew (walk). · Walks: DeskNew (spec), sameDesk, noDesk, DrawDeskNew; the law FnDeskNew (walk). · Walks: markDesk, heldDesk (laws) at a desk without maps of before; the law FnExactDeskNew (walk). · Walks: the law FnExactDeskNew. Printed by gen_w26.py. -/
import Derived.Deep.RegionWith
import Derived.Deep.RegionHeld3
import Derived.Lib.LazyBuf
import Derived.Test.YtnpjelekpkgbpaaDoorV1
import Derived.Test.YtnpjelekpkgbpaaDoorQ
import Derived.Test.YtnpjelekpkgbpaaDoorV4
namespace Go.Proofs.YtnpjelekpkgbpaaDoor
set_option linter.unusedVariables false
open Go.RowKit

def gR (xss : List (List Int)) (k : Nat) : List Int := xss.getD k []
theorem gR_get {xss : List (List Int)} {k : Nat} (hk : k < xss.length) : gR xss k = xss[k] := by simp [gR, List.getD, List.getElem?_eq_getElem hk]
theorem eq_of_gR {xss yss : List (List Int)} (hl : xss.length = yss.length) (h : ∀ k, k < xss.length → gR xss k = gR yss k) : xss = yss := by
  apply List.ext_getElem hl
  intro k h1 h2
  have := h k h1
  rwa [gR_get h1, gR_get h2] at this
/-- The slice value '.slice A n c' reads as the rows xss, below block B. -/
def RdR (w : World) (B : Nat) (A : Option Addr) (n c : Nat) (xss : List (List Int)) : Prop :=
  xss.length = n ∧ n ≤ c ∧ c ≤ maxLen ∧ (0 < n → ∃ b off, A = some ⟨b, off, none⟩ ∧ b < B ∧ ∀ k, k < n → ∃ A' n' c', w.cell? ⟨b, off + k, none⟩ = some (.slice A' n' c') ∧ Rd w B A' n' c' (gR xss k))
section
variable {w w' : World} {B B' n c : Nat} {A : Option Addr} {xss : List (List Int)}
theorem RdR.len (h : RdR w B A n c xss) : xss.length = n := h.1
theorem RdR.cap (h : RdR w B A n c xss) : n ≤ c := h.2.1
theorem RdR.max (h : RdR w B A n c xss) : c ≤ maxLen := h.2.2.1
theorem RdR.at_ (h : RdR w B A n c xss) {k : Nat} (hk : k < n) : ∃ b off A' n' c', A = some ⟨b, off, none⟩ ∧ b < B ∧ w.cell? ⟨b, off + k, none⟩ = some (.slice A' n' c') ∧ Rd w B A' n' c' (gR xss k) := by
  obtain ⟨b, off, e, hb, hc⟩ := h.2.2.2 (by omega)
  obtain ⟨A', n', c', h1, h2⟩ := hc k hk
  exact ⟨b, off, A', n', c', e, hb, h1, h2⟩
theorem RdR.nil_ (w : World) (B : Nat) : RdR w B none 0 0 [] := ⟨rfl, Nat.le_refl _, Nat.zero_le _, fun h => absurd h (by omega)⟩
theorem RdR.keep (h : RdR w B A n c xss) (hk : ∀ p : Addr, p.block < B → w'.cell? p = w.cell? p) : RdR w' B A n c xss :=
  ⟨h.1, h.2.1, h.2.2.1, fun hn => by
    obtain ⟨b, off, e, hb, hc⟩ := h.2.2.2 hn
    refine ⟨b, off, e, hb, fun k hk' => ?_⟩
    obtain ⟨A', n', c', h1, h2⟩ := hc k hk'
    exact ⟨A', n', c', (hk _ hb).trans h1, h2.keep hk⟩⟩
theorem RdR.more (h : RdR w B A n c xss) (hB : B ≤ B') : RdR w B' A n c xss :=
  ⟨h.1, h.2.1, h.2.2.1, fun hn => by
    obtain ⟨b, off, e, hb, hc⟩ := h.2.2.2 hn
    refine ⟨b, off, e, by omega, fun k hk' => ?_⟩
    obtain ⟨A', n', c', h1, h2⟩ := hc k hk'
    exact ⟨A', n', c', h1, h2.more hB⟩⟩
theorem RdR.below (h : RdR w B A n c xss) (hb : Below B w w') : RdR w' B A n c xss := h.keep fun _ hp => hb.cell hp
theorem RdR.up (h : RdR w w.heap.size A n c xss) (hb : Below w.heap.size w w') : RdR w' w'.heap.size A n c xss := (h.below hb).more hb.size
theorem RdR.dn (h : RdR w w.heap.size A n c xss) (m : Nat) : RdR (w.drewN m) (w.drewN m).heap.size A n c xss := h.keep fun _ _ => rfl
end

/-- A callee that draws, met in a quiet region. -/
theorem qQ {P : Program} {f : FuncId} {args : Array Value} {w : World} {n : Nat} {v : Value}
    (h : Calls P f args (w.drewN n) fun e w' => e = .returned v ∧ ∃ m, w' = (w.drewN n).drewN m) : Calls P f args (w.drewN n) fun e w'' => e = .returned v ∧ ∃ m, w'' = w.drewN m :=
  h.mono fun _ _ ⟨he, m, hm⟩ => ⟨he, _, hm.trans (World.drewN_drewN ..)⟩
theorem qA {P : Program} {f : FuncId} {args : Array Value} {w : World} {a n : Nat} {v : Value}
    (h : Calls P f args (w.drewN (a + n)) fun e w' => e = .returned v ∧ ∃ m, w' = (w.drewN (a + n)).drewN m) : Calls P f args (w.drewN (a + n)) fun e w'' => e = .returned v ∧ ∃ m, w'' = w.drewN (a + m) :=
  h.mono fun _ _ ⟨he, m, hm⟩ => ⟨he, n + m, by rw [hm, World.drewN_drewN, Nat.add_assoc]⟩
def eqBB (xss yss : List (List Int)) : Bool := decide (xss = yss)
/-! ### sizes -/
def SzS (n : Nat) (left : Int) (w : World) (e : Ending) (w' : World) : Prop :=
  ∃ r : Int, e = .returned (.int .i64 r) ∧ w = w' ∧ -1 ≤ r ∧ r ≤ left ∧ (0 ≤ r → (n : Int) ≤ left)
def SzSS (xss : List (List Int)) (left : Int) (w : World) (e : Ending) (w' : World) : Prop :=
  ∃ r : Int, e = .returned (.int .i64 r) ∧ w = w' ∧ -1 ≤ r ∧ r ≤ left ∧ (0 ≤ r → (xss.length : Int) ≤ left ∧ ∀ k, k < xss.length → ((gR xss k).length : Int) ≤ left)
end Go.Proofs.YtnpjelekpkgbpaaDoor
namespace Go.Proofs.YtnpjelekpkgbpaaDoor
set_option linter.unusedVariables false
open Go.RowKit

theorem row_info : (Tryd.prog.info? 49).map (fun i => (i.zero, i.size, i.bytes)) = some (some (.slice none 0 0), 1, 24) := by kernel_rfl
theorem vs_up {w w' : World} {B : Nat} {e : TypeId} {n c : Nat} {A : Option Addr} {vs : List Value} (h : w.ownsRow B e 1 (.slice A n c) n vs) (hb : Below w.heap.size w w') : w'.ownsRow B e 1 (.slice A n c) n vs :=
  ⟨h.1, h.2.elim .inl fun ⟨g, cap, cur, e', hg, hh, r⟩ => .inr ⟨g, cap, cur, e', hg, by rw [hb.block g (Array.getElem?_eq_some_iff.1 hh).1]; exact hh, r⟩⟩
/-- The first k rows are made. -/
def RowsTo (w : World) (g n k : Nat) (xss : List (List Int)) : Prop :=
  ∃ vs : List Value, w.ownsRow g 49 1 (.slice (some ⟨g, 0, none⟩) n n) n vs ∧ vs.length = n ∧ (∀ j, k ≤ j → j < n → vs[j]? = some (.slice none 0 0)) ∧
    ∀ j, j < k → ∃ A n' c, vs[j]? = some (.slice A n' c) ∧ OwnIn w (g + 1) w.heap.size A n' c (gR xss j)
theorem RowsTo.made {w : World} {g n : Nat} {xss : List (List Int)} (h : w.ownsRow g 49 1 (.slice (some ⟨g, 0, none⟩) n n) n (madeCells #[Value.slice none 0 0] n).toList) : RowsTo w g n 0 xss :=
  ⟨List.replicate n (.slice none 0 0), by simpa [toList_madeCells_one] using h, by simp, fun j _ hj => by simp [hj], fun j hj => absurd hj (Nat.not_lt_zero _)⟩
theorem RowsTo.lt {w : World} {g n k : Nat} {xss : List (List Int)} (h : RowsTo w g n k xss) : g < w.heap.size := by
  obtain ⟨vs, ho, _⟩ := h
  exact (ho.lt g rfl).2
theorem RowsTo.old {w w' : World} {g n k : Nat} {xss : List (List Int)} (h : RowsTo w g n k xss) (hb : Below w.heap.size w w') (hk : k < n) : w'.cell? ⟨g, k, none⟩ = some (.slice none 0 0) := by
  obtain ⟨vs, ho, hl, h0, _⟩ := h
  rw [(vs_up ho hb).cellAt k (by omega)]
  exact h0 k (Nat.le_refl _) hk
theorem RowsTo.frozen {w w' : World} {g n k : Nat} {xss : List (List Int)} (h : RowsTo w g n k xss) (hb : Below w.heap.size w w') : w'.frozen? ⟨g, k, none⟩ = false := by
  obtain ⟨vs, ho, _⟩ := h
  exact (vs_up ho hb).frozenAt k
theorem RowsTo.next {w w' : World} {g n k n' : Nat} {xss : List (List Int)} (h : RowsTo w g n k xss) (hb : Below w.heap.size w w') (hk : k < n)
    (ho : Own w' w.heap.size (some ⟨w.heap.size, 0, none⟩) n' n' (gR xss k)) : RowsTo (w'.setCell ⟨g, k, none⟩ (.slice (some ⟨w.heap.size, 0, none⟩) n' n')) g n (k + 1) xss := by
  have hg := h.lt
  obtain ⟨vs, hv, hl, h0, h1⟩ := h
  have hv' := (vs_up hv hb).stored k (.slice (some ⟨w.heap.size, 0, none⟩) n' n')
  have hch : Chg g (g + 1) w' (w'.setCell ⟨g, k, none⟩ (.slice (some ⟨w.heap.size, 0, none⟩) n' n')) := (Chg.refl g (g + 1) w').setCell (p := ⟨g, k, none⟩) (Nat.le_refl g) (Nat.lt_succ_self g) _
  refine ⟨vs.set k (.slice (some ⟨w.heap.size, 0, none⟩) n' n'), hv'.1, by simpa using hl, fun j h2 h3 => ?_, fun j hj => ?_⟩
  · rw [List.getElem?_set_ne (by omega)]; exact h0 j (by omega) h3
  · rcases Nat.lt_or_ge j k with h2 | h2
    · obtain ⟨A, m, c, e, hO⟩ := h1 j h2
      refine ⟨A, m, c, by rw [List.getElem?_set_ne (by omega)]; exact e, ?_⟩
      exact ((hO.up hb).chg hch (.inr (Nat.le_refl _))).wide (Nat.le_refl _) (Nat.le_trans hb.size hch.size)
    · obtain rfl : j = k := by omega
      refine ⟨_, _, _, by rw [List.getElem?_set_self (by omega)], ?_⟩
      exact (ho.inn.chg hch (.inr (by omega))).wide (by omega) hch.size
theorem RowsTo.rd {w : World} {g n : Nat} {xss : List (List Int)} (h : RowsTo w g n n xss) (hx : xss.length = n) (hn : n ≤ maxLen) : RdR w w.heap.size (some ⟨g, 0, none⟩) n n xss := by
  have hg := h.lt
  obtain ⟨vs, hv, hl, h0, h1⟩ := h
  refine ⟨hx, Nat.le_refl _, hn, fun _ => ⟨g, 0, rfl, hg, fun k hk => ?_⟩⟩
  obtain ⟨A, m, c, e, hO⟩ := h1 k hk
  exact ⟨A, m, c, by rw [Nat.zero_add, hv.cellAt k (by omega)]; exact e, hO.rd⟩
theorem RowsTo.chg {w w' : World} {g n k lo hi : Nat} {xss : List (List Int)} (h : RowsTo w g n k xss) (hc : Chg lo hi w w') (hd : hi ≤ g) : RowsTo w' g n k xss := by
  have hg := h.lt
  obtain ⟨vs, hv, hl, h0, h1⟩ := h
  refine ⟨vs, ⟨hv.1, hv.2.elim .inl fun ⟨g', cap, cur, e', hg', hh, r⟩ => .inr ⟨g', cap, cur, e', hg', by rw [hc.block g' (Array.getElem?_eq_some_iff.1 hh).1 (.inr (by omega))]; exact hh, r⟩⟩, hl, h0, fun j hj => ?_⟩
  obtain ⟨A, m, c, e, hO⟩ := h1 j hj
  exact ⟨A, m, c, e, (hO.chg hc (.inr (by omega))).wide (Nat.le_refl _) hc.size⟩
def Small (xss : List (List Int)) : Prop := xss.length ≤ 1048576 ∧ ∀ k, k < xss.length → (gR xss k).length ≤ 1048576
/-! ### the desk -/
/-- The desk '.agg #[.slice A n c, .slice P m d]' reads as the map xs and the rows yss. -/
def RdD (w : World) (B : Nat) (A : Option Addr) (n c : Nat) (xs : List Int) (P : Option Addr) (m d : Nat) (yss : List (List Int)) : Prop := Rd w B A n c xs ∧ RdR w B P m d yss
end Go.Proofs.YtnpjelekpkgbpaaDoor
namespace Go.Proofs.YtnpjelekpkgbpaaDoor
set_option linter.unusedVariables false
open Go.RowKit

def deskOkB (xs : List Int) (yss : List (List Int)) : Bool := mapOk xs && decide (yss.length ≤ 8) && yss.all mapOk
theorem all_gR {yss : List (List Int)} (h : ∀ k, k < yss.length → mapOk (gR yss k) = true) : yss.all mapOk = true := by
  rw [List.all_eq_true]
  intro x hx
  obtain ⟨k, hk, rfl⟩ := List.getElem_of_mem hx
  rw [← gR_get hk]; exact h k hk
theorem all_not {yss : List (List Int)} {k : Nat} (hk : k < yss.length) (h : mapOk (gR yss k) = false) : yss.all mapOk = false := by
  rw [gR_get hk] at h
  rw [List.all_eq_false]
  exact ⟨_, List.getElem_mem hk, by rw [h]; decide⟩
theorem desk_no1 {xs : List Int} {yss : List (List Int)} (h : mapOk xs = false) : deskOkB xs yss = false := by simp [deskOkB, h]
theorem desk_no2 {xs : List Int} {yss : List (List Int)} (h : ¬ yss.length ≤ 8) : deskOkB xs yss = false := by simp [deskOkB, h]
theorem desk_no3 {xs : List Int} {yss : List (List Int)} {k : Nat} (hk : k < yss.length) (h : mapOk (gR yss k) = false) : deskOkB xs yss = false := by rw [deskOkB, all_not hk h]; simp
theorem desk_yes {xs : List Int} {yss : List (List Int)} (h : mapOk xs = true) (h8 : yss.length ≤ 8) (ha : ∀ k, k < yss.length → mapOk (gR yss k) = true) : deskOkB xs yss = true := by rw [deskOkB, all_gR ha]; simp [h, h8]

theorem eqBB_self (yss : List (List Int)) : eqBB yss yss = true := decide_eq_true rfl
theorem RdD.up {w w' : World} {A P : Option Addr} {n c m d : Nat} {xs : List Int} {yss : List (List Int)} (h : RdD w w.heap.size A n c xs P m d yss) (hb : Below w.heap.size w w') : RdD w' w'.heap.size A n c xs P m d yss := ⟨h.1.up hb, h.2.up hb⟩
end Go.Proofs.YtnpjelekpkgbpaaDoor
namespace Go.Proofs.YtnpjelekpkgbpaaDoor
set_option linter.unusedVariables false
open Go.RowKit

/-- An append of a whole row to an empty row of the call's own, as one step of a walk. -/
theorem app_row {ops : Array Oper} {rest : List Oper} {o : Oper} {a : Act} {Q : Exit → Act → World → Prop} (w : World) (hgd : o.guard = none) (s x : Operand)
    (ho : o.op = .call { callee := .builtin .append, args := #[s, x], argTypes := #[49, 49] })
    (B : Nat) (v : Value) (hs : a.eval s = v) (hown : OwnV w B v []) (A : Option Addr) (n c : Nat) (xs : List Int) (hx : a.eval x = .slice A n c) (hr : Rd w w.heap.size A n c xs) (h0 : 0 < n)
    (hlen : n ≤ 1000000000000) (hB : B ≤ w.heap.size)
    (h : ∀ v' w', OwnV w' B v' xs → Below B w w' → wpList Tryd.prog ops Q rest (a.put o.dst v') w') :
    wpList Tryd.prog ops Q (o :: rest) a w := by
  obtain ⟨i0, hi, hz0, hz1, hz2⟩ := info_parts int_info
  obtain ⟨b, off, rfl, hb, hcell⟩ := hr.2.2.2 h0
  have hl := hr.len
  refine wpList_append_own _ hgd s x 49 ho B 3 i0 (.int .i64 0) 1 8 Tryd.underlying49 hi hz0 hz1 hz2 rfl (by decide) v 0 [] hs (by simpa [OwnV] using hown) ⟨b, off, none⟩ n c (xs.map (Value.int .i64)) hx (by simp [hl]) (fun j u hj => ?_) (by simp [Value.oneCell']) (by unfold maxLen; omega) (by omega) (by simpa using hB) ?_
  · have hjn : j < n := by
      rcases Nat.lt_or_ge j (xs.map (Value.int .i64)).length with h' | h'
      · rw [List.length_map, hl] at h'; exact h'
      · rw [List.getElem?_eq_none h'] at hj; cases hj
    rw [Addr.add_lit, hcell j hjn]
    rw [List.getElem?_map, List.getElem?_eq_getElem (by omega)] at hj
    simp only [Option.map_some, Option.some.injEq] at hj
    rw [← hj, gI_get (by omega)]
  · intro v' w' hown' hg _
    refine h v' w' ?_ ((Below.refl B w).grown hg hB (fun k hk => (hown.lt k hk).1))
    unfold OwnV
    rw [hl]
    simpa using hown'
/-! ### DeskNew -/
def NewOut (w : World) (xs : List Int) (e : Ending) (w' : World) : Prop :=
  ∃ A n c, e = .returned (.tuple #[.agg #[.slice A n c, .slice none 0 0], .bool (mapOk xs)]) ∧ OwnIn w' w.heap.size w'.heap.size A n c (if mapOk xs then xs else []) ∧ Below w.heap.size w w'
theorem mapOk_bounds {xs : List Int} (h : mapOk xs = true) : 1 ≤ xs.length ∧ xs.length ≤ 7 := by
  unfold mapOk at h
  simp only [Bool.and_eq_true, decide_eq_true_eq] at h
  exact h.1
end Go.Proofs.YtnpjelekpkgbpaaDoor
namespace Go.Proofs.YtnpjelekpkgbpaaDoor
set_option linter.unusedVariables false
open Go.RowKit

end Go.Proofs.YtnpjelekpkgbpaaDoor
namespace Go.Proofs.YtnpjelekpkgbpaaDoor
set_option linter.unusedVariables false
open Go.RowKit

end Go.Proofs.YtnpjelekpkgbpaaDoor
namespace Go.Proofs.YtnpjelekpkgbpaaDoor
set_option linter.unusedVariables false
open Go.RowKit
theorem Two.chg {w w' : World} {g lo hi : Nat} {x y : Value} (h : Two w g x y) (hc : Chg lo hi w w') (hd : g < lo ∨ hi ≤ g) : Two w' g x y :=
  have e := hc.block g h.1 hd
  ⟨Nat.lt_of_lt_of_le h.1 hc.size, (World.cell?_of_block (w := w) (a := ⟨g, 0, none⟩) e).trans h.2.1, (World.cell?_of_block (w := w) (a := ⟨g, 1, none⟩) e).trans h.2.2.1, (World.frozen?_of_block (w := w) (a := ⟨g, 0, none⟩) e).trans h.2.2.2.1, (World.frozen?_of_block (w := w) (a := ⟨g, 1, none⟩) e).trans h.2.2.2.2⟩
theorem Two.dn {w : World} {g : Nat} {x y : Value} (h : Two w g x y) (m : Nat) : Two (w.drewN m) g x y := h
def newR (xs : List Int) : List Int := if mapOk xs then xs else []
theorem newR_len (xs : List Int) : (newR xs).length ≤ 7 := by
  unfold newR; split
  · rename_i h; exact (mapOk_bounds h).2
  · simp
theorem NewOut.get {w w' : World} {xs : List Int} {e : Ending} (h : NewOut w xs e w') : ∃ A n c, e = .returned (.tuple #[.agg #[.slice A n c, .slice none 0 0], .bool (mapOk xs)]) ∧ OwnIn w' w.heap.size w'.heap.size A n c (newR xs) ∧ Below w.heap.size w w' := h
end Go.Proofs.YtnpjelekpkgbpaaDoor
