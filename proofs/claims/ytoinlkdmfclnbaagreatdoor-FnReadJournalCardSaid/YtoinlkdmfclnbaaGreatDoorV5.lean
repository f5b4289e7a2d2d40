/- Words for rows of rows of numbers, and walks over them: eqIntSS, szIntS, szIntSS, toIntSS (laws). · Walks: toIntSS, and the Desk's helpers szDesk, toDesk, eqDesk (laws), DeskOk (impl and spec). · Walks: DeskOk (impl and spec); the law FnExactDeskOk (walk). · Walks: slices.Clone at []int, DeskNew (impl and spec), sameRows, sameDesk, noDesk; the law FnDeskNew (walk). · Walks: DeskNew (spec), sameDesk, noDesk, DrawDeskNew; the law FnDeskNew (walk). · Walks: markDesk, heldDesk (laws) at a desk without maps of before; the law FnExactDeskNew (walk). · Walks: the law FnExactDeskNew. Printed by gen_w26.py. -/
import Derived.Deep.RegionWith
import Derived.Deep.RegionHeld3
import Derived.Lib.LazyBuf
import Derived.Test.YtoinlkdmfclnbaaGreatDoorV1
import Derived.Test.YtoinlkdmfclnbaaGreatDoorQ
import Derived.Test.YtoinlkdmfclnbaaGreatDoorV4
namespace Go.Proofs.YtoinlkdmfclnbaaGreatDoor
set_option linter.unusedVariables false
open Go.RowKit

def gR (xss : List (List Int)) (k : Nat) : List Int := xss.getD k []
theorem gR_get {xss : List (List Int)} {k : Nat} (hk : k < xss.length) : gR xss k = xss[k] := by simp [gR, List.getD, List.getElem?_eq_getElem hk]
theorem eq_of_gR {xss yss : List (List Int)} (hl : xss.length = yss.length) (h : ∀ k, k < xss.length → gR xss k = gR yss k) : xss = yss := by
  apply List.ext_getElem hl
  intro k h1 h2
  have := h k h1
  rwa [gR_get h1, gR_get h2] at this
/-- The slice value '.slice A n c' reads as the rows xss, below block B. -/
def RdR (w : World) (B : Nat) (A : Option Addr) (n c : Nat) (xss : List (List Int)) : Prop :=
  xss.length = n ∧ n ≤ c ∧ c ≤ maxLen ∧ (0 < n → ∃ b off, A = some ⟨b, off, none⟩ ∧ b < B ∧ ∀ k, k < n → ∃ A' n' c', w.cell? ⟨b, off + k, none⟩ = some (.slice A' n' c') ∧ Rd w B A' n' c' (gR xss k))
section
variable {w w' : World} {B B' n c : Nat} {A : Option Addr} {xss : List (List Int)}
theorem RdR.len (h : RdR w B A n c xss) : xss.length = n := h.1
theorem RdR.cap (h : RdR w B A n c xss) : n ≤ c := h.2.1
theorem RdR.max (h : RdR w B A n c xss) : c ≤ maxLen := h.2.2.1
theorem RdR.at_ (h : RdR w B A n c xss) {k : Nat} (hk : k < n) : ∃ b off A' n' c', A = some ⟨b, off, none⟩ ∧ b < B ∧ w.cell? ⟨b, off + k, none⟩ = some (.slice A' n' c') ∧ Rd w B A' n' c' (gR xss k) := by
  obtain ⟨b, off, e, hb, hc⟩ := h.2.2.2 (by omega)
  obtain ⟨A', n', c', h1, h2⟩ := hc k hk
  exact ⟨b, off, A', n', c', e, hb, h1, h2⟩
theorem RdR.nil_ (w : World) (B : Nat) : RdR w B none 0 0 [] := ⟨rfl, Nat.le_refl _, Nat.zero_le _, fun h => absurd h (by omega)⟩
theorem RdR.keep (h : RdR w B A n c xss) (hk : ∀ p : Addr, p.block < B → w'.cell? p = w.cell? p) : RdR w' B A n c xss :=
  ⟨h.1, h.2.1, h.2.2.1, fun hn => by
    obtain ⟨b, off, e, hb, hc⟩ := h.2.2.2 hn
    refine ⟨b, off, e, hb, fun k hk' => ?_⟩
    obtain ⟨A', n', c', h1, h2⟩ := hc k hk'
    exact ⟨A', n', c', (hk _ hb).trans h1, h2.keep hk⟩⟩
theorem RdR.more (h : RdR w B A n c xss) (hB : B ≤ B') : RdR w B' A n c xss :=
  ⟨h.1, h.2.1, h.2.2.1, fun hn => by
    obtain ⟨b, off, e, hb, hc⟩ := h.2.2.2 hn
    refine ⟨b, off, e, by omega, fun k hk' => ?_⟩
    obtain ⟨A', n', c', h1, h2⟩ := hc k hk'
    exact ⟨A', n', c', h1, h2.more hB⟩⟩
theorem RdR.below (h : RdR w B A n c xss) (hb : Below B w w') : RdR w' B A n c xss := h.keep fun _ hp => hb.cell hp
theorem RdR.up (h : RdR w w.heap.size A n c xss) (hb : Below w.heap.size w w') : RdR w' w'.heap.size A n c xss := (h.below hb).more hb.size
theorem RdR.dn (h : RdR w w.heap.size A n c xss) (m : Nat) : RdR (w.drewN m) (w.drewN m).heap.size A n c xss := h.keep fun _ _ => rfl
end

/-- A callee that draws, met in a quiet region. -/
theorem qQ {P : Program} {f : FuncId} {args : Array Value} {w : World} {n : Nat} {v : Value}
    (h : Calls P f args (w.drewN n) fun e w' => e = .returned v ∧ ∃ m, w' = (w.drewN n).drewN m) : Calls P f args (w.drewN n) fun e w'' => e = .returned v ∧ ∃ m, w'' = w.drewN m :=
  h.mono fun _ _ ⟨he, m, hm⟩ => ⟨he, _, hm.trans (World.drewN_drewN ..)⟩
theorem qA {P : Program} {f : FuncId} {args : Array Value} {w : World} {a n : Nat} {v : Value}
    (h : Calls P f args (w.drewN (a + n)) fun e w' => e = .returned v ∧ ∃ m, w' = (w.drewN (a + n)).drewN m) : Calls P f args (w.drewN (a + n)) fun e w'' => e = .returned v ∧ ∃ m, w'' = w.drewN (a + m) :=
  h.mono fun _ _ ⟨he, m, hm⟩ => ⟨he, n + m, by rw [hm, World.drewN_drewN, Nat.add_assoc]⟩
def eqBB (xss yss : List (List Int)) : Bool := decide (xss = yss)
set_option maxRecDepth 100000 in
set_option maxHeartbeats 800000 in
theorem eqIntSS_c (A A' : Option Addr) (n c n' c' : Nat) (xs ys : List (List Int)) (w : World) (h : RdR w w.heap.size A n c xs) (h' : RdR w w.heap.size A' n' c' ys) :
    Calls Tryz.prog 76 #[.slice A n c, .slice A' n' c'] w fun e w' => e = .returned (.bool (eqBB xs ys)) ∧ ∃ m, w' = w.drewN m := by
  have HL := Lib.hid h.len
  have HL' := Lib.hid h'.len
  have hm := h.max
  have hc := h.cap
  have hm' := h'.max
  have hc' := h'.cap
  unfold maxLen at hm hm'
  by_cases hne : n = n'
  · subst hne
    go_enter Tryz.func76, Tryz.ntmps76
    go_wp2
    go_loopw [5] (fun i wr => ∃ k : Nat, k ≤ n ∧ i = .int .i64 k ∧ (∀ j, j < k → gR xs j = gR ys j) ∧ ∃ m, wr = w.drewN m) (fun i _ => n - (intOf i).toNat)
    case atStart => exact ⟨0, Nat.zero_le _, rfl, fun j hj => absurd hj (Nat.not_lt_zero _), 0, rfl⟩
    case round =>
      obtain ⟨k, hk, rfl, hall, m, rfl⟩ := hrel
      have HA := Lib.hid hall
      clear hall
      by_cases hlt : k < n
      · obtain ⟨b, off, A1, n1, c1, rfl, hb, hcell, hr⟩ := h.at_ hlt
        obtain ⟨b', off', A2, n2, c2, rfl, hb', hcell', hr'⟩ := h'.at_ hlt
        rcases he : eqB (gR xs k) (gR ys k) with _ | _
        · have HE := Lib.hid (of_decide_eq_false he)
          go_wp2
          go_quiet ((go_at_call 75; exact qA (eqIntS_c A1 A2 n1 c1 n2 c2 (gR xs k) (gR ys k) _ (hr.dn _) (hr'.dn _))))
          go_wp2
          go_ret
          exact ⟨boolEnd (decide_eq_false (fun e => HE.out (by rw [e]))).symm, _, World.drewN_drewN ..⟩
        · have HE := Lib.hid (of_decide_eq_true he)
          go_wp2
          go_quiet ((go_at_call 75; exact qA (eqIntS_c A1 A2 n1 c1 n2 c2 (gR xs k) (gR ys k) _ (hr.dn _) (hr'.dn _))))
          go_wp2
          go_roundw
          case rel => exact ⟨k + 1, by omega, by go_num, fun j hj => by
            rcases Nat.lt_or_ge j k with h' | h'
            · exact HA.out j h'
            · obtain rfl : j = k := by omega
              exact HE.out, _, rfl⟩
          case measure => simp [intOf]; omega
      · go_wp2
        go_ret
        exact ⟨boolEnd (decide_eq_true (eq_of_gR (by rw [HL.out, HL'.out]) (fun j hj => HA.out j (by have := HL.out; omega)))).symm, _, rfl⟩
  · have hq : ((n : Int) != (n' : Int)) = true := by simp; omega
    go_enter Tryz.func76, Tryz.ntmps76
    go_wp2
    go_ret
    exact ⟨boolEnd (decide_eq_false (fun e => hne (by rw [← HL.out, ← HL'.out, e]))).symm, 0, rfl⟩

/-! ### sizes -/
def SzS (n : Nat) (left : Int) (w : World) (e : Ending) (w' : World) : Prop :=
  ∃ r : Int, e = .returned (.int .i64 r) ∧ w = w' ∧ -1 ≤ r ∧ r ≤ left ∧ (0 ≤ r → (n : Int) ≤ left)
set_option maxHeartbeats 400000 in
theorem szIntS_c (A : Option Addr) (n c : Nat) (xs : List Int) (left : Int) (w : World) (h : Rd w w.heap.size A n c xs) (h0 : 0 ≤ left) (h1 : left ≤ 1048576) :
    Calls Tryz.prog 71 #[.slice A n c, .int .i64 left] w (SzS n left w) := by
  have hm := h.max
  have hc := h.cap
  unfold maxLen at hm
  by_cases hn : (n : Int) ≤ left
  · go_enter Tryz.func71, Tryz.ntmps71
    go_wp2
    go_ret
    exact ⟨_, rfl, rfl, by omega, by omega, fun _ => hn⟩
  · go_enter Tryz.func71, Tryz.ntmps71
    go_wp2
    go_ret
    exact ⟨_, rfl, rfl, by omega, by omega, fun h => by omega⟩
def SzSS (xss : List (List Int)) (left : Int) (w : World) (e : Ending) (w' : World) : Prop :=
  ∃ r : Int, e = .returned (.int .i64 r) ∧ w = w' ∧ -1 ≤ r ∧ r ≤ left ∧ (0 ≤ r → (xss.length : Int) ≤ left ∧ ∀ k, k < xss.length → ((gR xss k).length : Int) ≤ left)
set_option maxRecDepth 100000 in
set_option maxHeartbeats 800000 in
theorem szIntSS_c (A : Option Addr) (n c : Nat) (xs : List (List Int)) (left : Int) (w : World) (h : RdR w w.heap.size A n c xs) (h0 : 0 ≤ left) (h1 : left ≤ 1048576) :
    Calls Tryz.prog 72 #[.slice A n c, .int .i64 left] w (SzSS xs left w) := by
  have HL := Lib.hid h.len
  have hm := h.max
  have hc := h.cap
  unfold maxLen at hm
  by_cases hn : (n : Int) ≤ left
  · go_enter Tryz.func72, Tryz.ntmps72
    go_wp2
    go_loopw [1, 5] (fun l i wr => ∃ (k : Nat) (r : Int), k ≤ n ∧ i = .int .i64 k ∧ l = .int .i64 r ∧ 0 ≤ r ∧ r ≤ left ∧ (∀ j, j < k → ((gR xs j).length : Int) ≤ left) ∧ wr = w) (fun _ i _ => n - (intOf i).toNat)
    case atStart => exact ⟨0, _, Nat.zero_le _, rfl, rfl, by omega, by omega, fun j hj => absurd hj (Nat.not_lt_zero _), rfl⟩
    case round =>
      obtain ⟨k, r, hk, rfl, rfl, hr0, hr1, hall, rfl⟩ := hrel
      have HA := Lib.hid hall
      clear hall
      by_cases hlt : k < n
      · obtain ⟨b, off, A1, n1, c1, rfl, hb, hcell, hr⟩ := h.at_ hlt
        have hl1 := hr.len
        go_wp2_with fail
        refine (szIntS_c A1 n1 c1 _ r _ hr hr0 (by omega)).mono ?_
        rintro e w' ⟨r2, rfl, rfl, hr2, hr3, hr4⟩
        by_cases hneg : r2 < 0
        · go_wp2_with fail
          go_ret
          exact ⟨_, rfl, rfl, by omega, by omega, fun h => by omega⟩
        · go_wp2_with fail
          go_roundw
          case rel => exact ⟨k + 1, r2, by omega, by go_num, rfl, by omega, by omega, fun j hj => by
            rcases Nat.lt_or_ge j k with h' | h'
            · exact HA.out j h'
            · obtain rfl : j = k := by omega
              have := hr4 (by omega)
              omega, trivial⟩
          case measure => simp [intOf]; omega
      · go_wp2
        go_ret
        exact ⟨_, rfl, rfl, by omega, by omega, fun _ => ⟨by rw [HL.out]; exact hn, fun j hj => HA.out j (by have := HL.out; omega)⟩⟩
  · go_enter Tryz.func72, Tryz.ntmps72
    go_wp2
    go_ret
    exact ⟨_, rfl, rfl, by omega, by omega, fun h => by omega⟩
end Go.Proofs.YtoinlkdmfclnbaaGreatDoor
namespace Go.Proofs.YtoinlkdmfclnbaaGreatDoor
set_option linter.unusedVariables false
open Go.RowKit

theorem row_info : (Tryz.prog.info? 23).map (fun i => (i.zero, i.size, i.bytes)) = some (some (.slice none 0 0), 1, 24) := by kernel_rfl
theorem vs_up {w w' : World} {B : Nat} {e : TypeId} {n c : Nat} {A : Option Addr} {vs : List Value} (h : w.ownsRow B e 1 (.slice A n c) n vs) (hb : Below w.heap.size w w') : w'.ownsRow B e 1 (.slice A n c) n vs :=
  ⟨h.1, h.2.elim .inl fun ⟨g, cap, cur, e', hg, hh, r⟩ => .inr ⟨g, cap, cur, e', hg, by rw [hb.block g (Array.getElem?_eq_some_iff.1 hh).1]; exact hh, r⟩⟩
/-- The first k rows are made. -/
def RowsTo (w : World) (g n k : Nat) (xss : List (List Int)) : Prop :=
  ∃ vs : List Value, w.ownsRow g 23 1 (.slice (some ⟨g, 0, none⟩) n n) n vs ∧ vs.length = n ∧ (∀ j, k ≤ j → j < n → vs[j]? = some (.slice none 0 0)) ∧
    ∀ j, j < k → ∃ A n' c, vs[j]? = some (.slice A n' c) ∧ OwnIn w (g + 1) w.heap.size A n' c (gR xss j)
theorem RowsTo.made {w : World} {g n : Nat} {xss : List (List Int)} (h : w.ownsRow g 23 1 (.slice (some ⟨g, 0, none⟩) n n) n (madeCells #[Value.slice none 0 0] n).toList) : RowsTo w g n 0 xss :=
  ⟨List.replicate n (.slice none 0 0), by simpa [toList_madeCells_one] using h, by simp, fun j _ hj => by simp [hj], fun j hj => absurd hj (Nat.not_lt_zero _)⟩
theorem RowsTo.lt {w : World} {g n k : Nat} {xss : List (List Int)} (h : RowsTo w g n k xss) : g < w.heap.size := by
  obtain ⟨vs, ho, _⟩ := h
  exact (ho.lt g rfl).2
theorem RowsTo.old {w w' : World} {g n k : Nat} {xss : List (List Int)} (h : RowsTo w g n k xss) (hb : Below w.heap.size w w') (hk : k < n) : w'.cell? ⟨g, k, none⟩ = some (.slice none 0 0) := by
  obtain ⟨vs, ho, hl, h0, _⟩ := h
  rw [(vs_up ho hb).cellAt k (by omega)]
  exact h0 k (Nat.le_refl _) hk
theorem RowsTo.frozen {w w' : World} {g n k : Nat} {xss : List (List Int)} (h : RowsTo w g n k xss) (hb : Below w.heap.size w w') : w'.frozen? ⟨g, k, none⟩ = false := by
  obtain ⟨vs, ho, _⟩ := h
  exact (vs_up ho hb).frozenAt k
theorem RowsTo.next {w w' : World} {g n k n' : Nat} {xss : List (List Int)} (h : RowsTo w g n k xss) (hb : Below w.heap.size w w') (hk : k < n)
    (ho : Own w' w.heap.size (some ⟨w.heap.size, 0, none⟩) n' n' (gR xss k)) : RowsTo (w'.setCell ⟨g, k, none⟩ (.slice (some ⟨w.heap.size, 0, none⟩) n' n')) g n (k + 1) xss := by
  have hg := h.lt
  obtain ⟨vs, hv, hl, h0, h1⟩ := h
  have hv' := (vs_up hv hb).stored k (.slice (some ⟨w.heap.size, 0, none⟩) n' n')
  have hch : Chg g (g + 1) w' (w'.setCell ⟨g, k, none⟩ (.slice (some ⟨w.heap.size, 0, none⟩) n' n')) := (Chg.refl g (g + 1) w').setCell (p := ⟨g, k, none⟩) (Nat.le_refl g) (Nat.lt_succ_self g) _
  refine ⟨vs.set k (.slice (some ⟨w.heap.size, 0, none⟩) n' n'), hv'.1, by simpa using hl, fun j h2 h3 => ?_, fun j hj => ?_⟩
  · rw [List.getElem?_set_ne (by omega)]; exact h0 j (by omega) h3
  · rcases Nat.lt_or_ge j k with h2 | h2
    · obtain ⟨A, m, c, e, hO⟩ := h1 j h2
      refine ⟨A, m, c, by rw [List.getElem?_set_ne (by omega)]; exact e, ?_⟩
      exact ((hO.up hb).chg hch (.inr (Nat.le_refl _))).wide (Nat.le_refl _) (Nat.le_trans hb.size hch.size)
    · obtain rfl : j = k := by omega
      refine ⟨_, _, _, by rw [List.getElem?_set_self (by omega)], ?_⟩
      exact (ho.inn.chg hch (.inr (by omega))).wide (by omega) hch.size
theorem RowsTo.rd {w : World} {g n : Nat} {xss : List (List Int)} (h : RowsTo w g n n xss) (hx : xss.length = n) (hn : n ≤ maxLen) : RdR w w.heap.size (some ⟨g, 0, none⟩) n n xss := by
  have hg := h.lt
  obtain ⟨vs, hv, hl, h0, h1⟩ := h
  refine ⟨hx, Nat.le_refl _, hn, fun _ => ⟨g, 0, rfl, hg, fun k hk => ?_⟩⟩
  obtain ⟨A, m, c, e, hO⟩ := h1 k hk
  exact ⟨A, m, c, by rw [Nat.zero_add, hv.cellAt k (by omega)]; exact e, hO.rd⟩
theorem RowsTo.chg {w w' : World} {g n k lo hi : Nat} {xss : List (List Int)} (h : RowsTo w g n k xss) (hc : Chg lo hi w w') (hd : hi ≤ g) : RowsTo w' g n k xss := by
  have hg := h.lt
  obtain ⟨vs, hv, hl, h0, h1⟩ := h
  refine ⟨vs, ⟨hv.1, hv.2.elim .inl fun ⟨g', cap, cur, e', hg', hh, r⟩ => .inr ⟨g', cap, cur, e', hg', by rw [hc.block g' (Array.getElem?_eq_some_iff.1 hh).1 (.inr (by omega))]; exact hh, r⟩⟩, hl, h0, fun j hj => ?_⟩
  obtain ⟨A, m, c, e, hO⟩ := h1 j hj
  exact ⟨A, m, c, e, (hO.chg hc (.inr (by omega))).wide (Nat.le_refl _) hc.size⟩
def Small (xss : List (List Int)) : Prop := xss.length ≤ 1048576 ∧ ∀ k, k < xss.length → (gR xss k).length ≤ 1048576
set_option maxRecDepth 100000 in
set_option maxHeartbeats 800000 in
theorem toIntSS_c (A : Option Addr) (n c : Nat) (xss : List (List Int)) (w : World) (h : RdR w w.heap.size A n c xss) (hs : Small xss) :
    Calls Tryz.prog 74 #[.slice A n c] w fun e w' => e = .returned (.slice (some ⟨w.heap.size, 0, none⟩) n n) ∧ RowsTo w' w.heap.size n n xss ∧ Below w.heap.size w w' := by
  have HL := Lib.hid h.len
  have hn : n ≤ 1048576 := by have := hs.1; have := h.len; omega
  have hm := h.max
  have hc := h.cap
  unfold maxLen at hm
  obtain ⟨i0, hi, hz0, hz1, hz2⟩ := info_parts row_info
  go_enter Tryz.func74, Tryz.ntmps74
  go_wp2_with (at_make; refine wpList_make_full _ rfl _ _ 24 rfl w.heap.size 23 i0 (.slice none 0 0) 1 Tryz.underlying24 hi hz0 hz1 _ _ _ _ n rfl rfl rfl rfl (by rw [hz2]; omega) (by unfold maxLen; omega) (Nat.le_refl _) ?_; intro w1 hown1 hg1)
  have hb1 : Below w.heap.size w w1 := (Below.refl _ _).grown hg1 (Nat.le_refl _) (fun k hk => by cases hk)
  have hr1 : RowsTo w1 w.heap.size n 0 xss := .made (by simpa [Value.cells] using hown1)
  clear hown1 hg1
  go_loopw [4] (fun i wr => ∃ k : Nat, k ≤ n ∧ i = .int .i64 k ∧ RowsTo wr w.heap.size n k xss ∧ Below w.heap.size w wr) (fun i _ => n - (intOf i).toNat)
  case atStart => exact ⟨0, Nat.zero_le _, rfl, hr1, hb1⟩
  case round =>
    obtain ⟨k, hk, rfl, hr, hbw⟩ := hrel
    clear hr1 hb1
    by_cases hlt : k < n
    · obtain ⟨b, off, A1, n1, c1, rfl, hb, hcell0, hrk⟩ := h.at_ hlt
      have hcell : wr.cell? ⟨b, off + k, none⟩ = some (.slice A1 n1 c1) := (hbw.cell (p := ⟨b, off + k, none⟩) hb).trans hcell0
      have hrk' := (hrk.below hbw).more hbw.size
      have hn1 : n1 ≤ 1048576 := by have := hs.2 k (by rw [HL.out]; exact hlt); have := hrk.len; omega
      have HB := Lib.hid hbw
      have HR := Lib.hid hr
      clear hbw hcell0 hr hrk
      go_wp2_with fail
      refine (toIntS_c A1 n1 c1 _ _ hrk' (by omega)).mono ?_
      rintro e w2 ⟨rfl, hO, hb2⟩
      have hold := HR.out.old hb2 hlt
      have hfz := HR.out.frozen (k := k) hb2
      have HN := Lib.hid (HR.out.next hb2 hlt hO)
      have HB2 := Lib.hid hb2
      clear hb2 hO
      go_wp2_with fail
      go_roundw
      case rel => exact ⟨k + 1, by omega, by go_num, HN.out, (HB.out.trans (HB2.out.mono HB.out.size)).setCell (Nat.le_refl _) _⟩
      case measure => simp [intOf]; omega
    · obtain rfl : k = n := by omega
      have HR := Lib.hid hr
      clear hr
      go_wp2_with fail
      go_ret
      exact ⟨rfl, HR.out, hbw⟩

/-! ### the desk -/
/-- The desk '.agg #[.slice A n c, .slice P m d]' reads as the map xs and the rows yss. -/
def RdD (w : World) (B : Nat) (A : Option Addr) (n c : Nat) (xs : List Int) (P : Option Addr) (m d : Nat) (yss : List (List Int)) : Prop := Rd w B A n c xs ∧ RdR w B P m d yss
set_option maxRecDepth 100000 in
set_option maxHeartbeats 800000 in
theorem szDesk_c (A P : Option Addr) (n c m d : Nat) (xs : List Int) (yss : List (List Int)) (w : World) (h : RdD w w.heap.size A n c xs P m d yss) :
    Calls Tryz.prog 20 #[.agg #[.slice A n c, .slice P m d], .int .i64 1048576] w fun e w' => ∃ r : Int, e = .returned (.int .i64 r) ∧ Below w.heap.size w w' ∧ -1 ≤ r ∧ r ≤ 1048576 ∧ (0 ≤ r → xs.length ≤ 1048576 ∧ Small yss) := by
  have hl := h.1.len
  have hb1 : Below w.heap.size w (w.alloc (.cells #[.slice A n c, .slice P m d] 39)) := (Below.refl _ _).alloc (Nat.le_refl _) _
  have h1 := h.1.up hb1
  have h2 := h.2.up hb1
  go_enter Tryz.func20, Tryz.ntmps20
  go_wp2_with fail
  refine (szIntS_c A n c xs 1048576 _ h1 (by omega) (by omega)).mono ?_
  rintro e w' ⟨r, rfl, rfl, hr0, hr1, hr2⟩
  by_cases hneg : r < 0
  · go_wp2_with fail
    go_ret
    exact ⟨_, rfl, hb1, by omega, by omega, fun h => by omega⟩
  · go_wp2_with fail
    refine (szIntSS_c P m d yss r _ h2 (by omega) (by omega)).mono ?_
    rintro e w' ⟨r2, rfl, rfl, hr3, hr4, hr5⟩
    by_cases hneg : r2 < 0
    · go_wp2_with fail
      go_ret
      exact ⟨_, rfl, hb1, by omega, by omega, fun h => by omega⟩
    · go_wp2_with fail
      go_ret
      have hq := hr5 (by omega)
      exact ⟨_, rfl, hb1, by omega, by omega, fun _ => ⟨by have := hr2 (by omega); omega, by have := hq.1; omega, fun k hk => by have := hq.2 k hk; omega⟩⟩

set_option maxRecDepth 100000 in
set_option maxHeartbeats 800000 in
theorem toDesk_c (A P : Option Addr) (n c m d : Nat) (xs : List Int) (yss : List (List Int)) (w : World) (h : RdD w w.heap.size A n c xs P m d yss) (hx : xs.length ≤ 1048576) (hy : Small yss) :
    Calls Tryz.prog 22 #[.agg #[.slice A n c, .slice P m d]] w fun e w' => ∃ A' n' c' P' m' d', e = .returned (.agg #[.slice A' n' c', .slice P' m' d']) ∧ RdD w' w'.heap.size A' n' c' xs P' m' d' yss ∧ Below w.heap.size w w' := by
  have hl := h.1.len
  go_enter Tryz.func22, Tryz.ntmps22
  go_wp2_with fail
  have ha := ((Two.made w 39 (.slice A n c) (.slice P m d)).alloc (.cells #[.slice none 0 0, .slice none 0 0] 26)).alloc (.cells #[.slice none 0 0, .slice none 0 0] 26)
  have hr := (Two.made (w.alloc (.cells #[.slice A n c, .slice P m d] 39)) 26 (.slice none 0 0) (.slice none 0 0)).alloc (.cells #[.slice none 0 0, .slice none 0 0] 26)
  have ho := Two.made ((w.alloc (.cells #[.slice A n c, .slice P m d] 39)).alloc (.cells #[.slice none 0 0, .slice none 0 0] 26)) 26 (.slice none 0 0) (.slice none 0 0)
  have hb1 : Below w.heap.size w (((w.alloc (.cells #[.slice A n c, .slice P m d] 39)).alloc (.cells #[.slice none 0 0, .slice none 0 0] 26)).alloc (.cells #[.slice none 0 0, .slice none 0 0] 26)) :=
    (((Below.refl _ _).alloc (Nat.le_refl _) _).alloc (by simp) _).alloc (by simp; omega) _
  simp only [World.size_alloc] at hr ho
  generalize ((w.alloc (.cells #[.slice A n c, .slice P m d] 39)).alloc (.cells #[.slice none 0 0, .slice none 0 0] 26)).alloc (.cells #[.slice none 0 0, .slice none 0 0] 26) = w1 at *
  have h1 := h.1.up hb1
  have h2 := h.2.up hb1
  refine (toIntS_c A n c xs _ h1 (by omega)).mono ?_
  rintro e w2 ⟨rfl, hO, hb2⟩
  have ha2 := ha.up hb2
  have hr2 := hr.up hb2
  have ho2 := ho.up hb2
  have hn1 := hb1.size
  have hn2 := hb2.size
  have ho3 := ho2.set0 (.slice (some ⟨w1.heap.size, 0, none⟩) n n)
  have ha3 := ha2.far (p := ⟨w.heap.size + 1 + 1, 0, none⟩) (by simp; omega) (.slice (some ⟨w1.heap.size, 0, none⟩) n n)
  have hr3 := hr2.far (p := ⟨w.heap.size + 1 + 1, 0, none⟩) (by simp) (.slice (some ⟨w1.heap.size, 0, none⟩) n n)
  have hlo := ho.1
  have hb3 : Below w1.heap.size w1 w2 := hb2
  have hO3' : OwnIn (w2.setCell ⟨w.heap.size + 1 + 1, 0, none⟩ (.slice (some ⟨w1.heap.size, 0, none⟩) n n)) w1.heap.size w2.heap.size (some ⟨w1.heap.size, 0, none⟩) n n xs := by
    exact (hO.inn.chg (lo' := w.heap.size + 1 + 1) (hi' := w.heap.size + 1 + 1 + 1) ((Chg.refl _ _ w2).setCell (p := ⟨w.heap.size + 1 + 1, 0, none⟩) (Nat.le_refl (w.heap.size + 1 + 1)) (Nat.lt_succ_self (w.heap.size + 1 + 1)) (.slice (some ⟨w1.heap.size, 0, none⟩) n n)) (.inr (by have := ho.1; omega)))
  have hb4 : Below w.heap.size w (w2.setCell ⟨w.heap.size + 1 + 1, 0, none⟩ (.slice (some ⟨w1.heap.size, 0, none⟩) n n)) := (hb1.trans (hb2.mono hn1)).setCell (by simp; omega) _
  have h3 := h.2.up hb4
  have hsz : (w2.setCell ⟨w.heap.size + 1 + 1, 0, none⟩ (.slice (some ⟨w1.heap.size, 0, none⟩) n n)).heap.size = w2.heap.size := by simp
  have hol1 := ho.1
  have hyl := h.2.len
  rw [← hsz] at hO3'
  clear hsz
  obtain ⟨hol, ho0, ho1, hof, _⟩ := ho2
  obtain ⟨_, _, ha1, _, _⟩ := ha3
  clear ha2 ha hr ho hr2 hO
  go_wp2_with fail
  clear ho0 ho1 hof ha1
  generalize w2.setCell ⟨w.heap.size + 1 + 1, 0, none⟩ (.slice (some ⟨w1.heap.size, 0, none⟩) n n) = w3 at *
  refine (toIntSS_c P m d yss _ h3 hy).mono ?_
  rintro e w4 ⟨rfl, hR, hb5⟩
  have hr4 := hr3.up hb5
  have ho4 := ho3.up hb5
  have hr5 := hr4.far (p := ⟨w.heap.size + 1 + 1, 1, none⟩) (by simp) (.slice (some ⟨w3.heap.size, 0, none⟩) m m)
  have ho5 := ho4.set1 (.slice (some ⟨w3.heap.size, 0, none⟩) m m)
  have hlt3 := hb4.size
  have ho3l := ho3.1
  obtain ⟨_, _, ho41, _, hof4⟩ := ho4
  obtain ⟨_, ho50, ho51, _, _⟩ := id ho5
  obtain ⟨_, hr50, hr51, hrf0, hrf1⟩ := id hr5
  clear hr3 ho3 hr4
  go_wp2_with fail
  have hend := (hr5.set0 (.slice (some ⟨w1.heap.size, 0, none⟩) n n)).set1 (.slice (some ⟨w3.heap.size, 0, none⟩) m m)
  have hbe : Below w.heap.size w (((w4.setCell ⟨w.heap.size + 1 + 1, 1, none⟩ (.slice (some ⟨w3.heap.size, 0, none⟩) m m)).setCell ⟨w.heap.size + 1, 0, none⟩ (.slice (some ⟨w1.heap.size, 0, none⟩) n n)).setCell ⟨w.heap.size + 1, 1, none⟩ (.slice (some ⟨w3.heap.size, 0, none⟩) m m)) :=
    (((hb4.trans (hb5.mono hlt3)).setCell (by simp; omega) _).setCell (by simp) _).setCell (by simp) _
  have hch : Chg (w.heap.size + 1) (w.heap.size + 3) w4 (((w4.setCell ⟨w.heap.size + 1 + 1, 1, none⟩ (.slice (some ⟨w3.heap.size, 0, none⟩) m m)).setCell ⟨w.heap.size + 1, 0, none⟩ (.slice (some ⟨w1.heap.size, 0, none⟩) n n)).setCell ⟨w.heap.size + 1, 1, none⟩ (.slice (some ⟨w3.heap.size, 0, none⟩) m m)) :=
    (((Chg.refl _ _ _).setCell (by simp) (by simp) _).setCell (by simp) (by simp) _).setCell (by simp) (by simp) _
  (try simp only [Exit.inBlock, Exit.then])
  have hpost : ∀ e, e = Ending.returned (.agg #[.slice (some ⟨w1.heap.size, 0, none⟩) n n, .slice (some ⟨w3.heap.size, 0, none⟩) m m]) → ∃ A' n' c' P' m' d', e = .returned (.agg #[.slice A' n' c', .slice P' m' d']) ∧ RdD (((w4.setCell ⟨w.heap.size + 1 + 1, 1, none⟩ (.slice (some ⟨w3.heap.size, 0, none⟩) m m)).setCell ⟨w.heap.size + 1, 0, none⟩ (.slice (some ⟨w1.heap.size, 0, none⟩) n n)).setCell ⟨w.heap.size + 1, 1, none⟩ (.slice (some ⟨w3.heap.size, 0, none⟩) m m)) (((w4.setCell ⟨w.heap.size + 1 + 1, 1, none⟩ (.slice (some ⟨w3.heap.size, 0, none⟩) m m)).setCell ⟨w.heap.size + 1, 0, none⟩ (.slice (some ⟨w1.heap.size, 0, none⟩) n n)).setCell ⟨w.heap.size + 1, 1, none⟩ (.slice (some ⟨w3.heap.size, 0, none⟩) m m)).heap.size A' n' c' xs P' m' d' yss ∧ Below w.heap.size w (((w4.setCell ⟨w.heap.size + 1 + 1, 1, none⟩ (.slice (some ⟨w3.heap.size, 0, none⟩) m m)).setCell ⟨w.heap.size + 1, 0, none⟩ (.slice (some ⟨w1.heap.size, 0, none⟩) n n)).setCell ⟨w.heap.size + 1, 1, none⟩ (.slice (some ⟨w3.heap.size, 0, none⟩) m m)) := by
    intro e he
    refine ⟨_, _, _, _, _, _, he, ⟨?_, ?_⟩, hbe⟩
    · have := (hO3'.below (B := w3.heap.size) hb5 (Nat.le_refl _)).chg hch (.inr (by omega))
      exact this.rd.more (by simp)
    · exact (hR.chg hch (by omega)).rd hyl (by have := hy.1; unfold maxLen; omega)
  refine bodyPost_ret (v := .agg #[.slice (some ⟨w1.heap.size, 0, none⟩) n n, .slice (some ⟨w3.heap.size, 0, none⟩) m m]) ?_ rfl (hpost _ rfl)
  · exact results_two rfl _ _ (w.heap.size + 1) _ _ _ rfl hend Tryz.underlying26 rfl desk_size

set_option maxRecDepth 100000 in
set_option maxHeartbeats 800000 in
theorem eqDesk_c (A P A' P' : Option Addr) (n c m d n' c' m' d' : Nat) (xs xs' : List Int) (yss yss' : List (List Int)) (w : World) (h : RdD w w.heap.size A n c xs P m d yss) (h' : RdD w w.heap.size A' n' c' xs' P' m' d' yss') :
    Calls Tryz.prog 24 #[.agg #[.slice A n c, .slice P m d], .agg #[.slice A' n' c', .slice P' m' d']] w fun e w' => e = .returned (.bool (eqB xs xs' && eqBB yss yss')) ∧ Below w.heap.size w w' := by
  have hb1 : Below w.heap.size w (w.alloc (.cells #[.slice A n c, .slice P m d] 26)) := (Below.refl _ _).alloc (Nat.le_refl _) _
  have hb2 : Below w.heap.size w ((w.alloc (.cells #[.slice A n c, .slice P m d] 26)).alloc (.cells #[.slice A' n' c', .slice P' m' d'] 26)) := hb1.alloc (by simp) _
  have h1 := h.1.up hb2
  have h2 := h.2.up hb2
  have h1' := h'.1.up hb2
  have h2' := h'.2.up hb2
  clear hb1
  go_enter Tryz.func24, Tryz.ntmps24
  go_wp2_with fail
  refine (eqIntS_c A A' n c n' c' xs xs' _ h1 h1').mono ?_
  rintro e w' ⟨rfl, k, rfl⟩
  rcases hq : eqB xs xs' with _ | _
  · go_wp2_with fail
    go_ret
    exact ⟨by rw [hq]; rfl, bd hb2 k⟩
  · go_wp2_with fail
    refine (eqIntSS_c P P' m d m' d' yss yss' _ (h2.dn k) (h2'.dn k)).mono ?_
    rintro e w' ⟨rfl, k2, rfl⟩
    rcases hq2 : eqBB yss yss' with _ | _
    · go_wp2_with fail
      go_ret
      exact ⟨by rw [hq, hq2]; rfl, bd hb2 (k + k2)⟩
    · go_wp2_with fail
      go_ret
      exact ⟨by rw [hq, hq2]; rfl, bd hb2 (k + k2)⟩
end Go.Proofs.YtoinlkdmfclnbaaGreatDoor
namespace Go.Proofs.YtoinlkdmfclnbaaGreatDoor
set_option linter.unusedVariables false
open Go.RowKit

def deskOkB (xs : List Int) (yss : List (List Int)) : Bool := mapOk xs && decide (yss.length ≤ 8) && yss.all mapOk
theorem all_gR {yss : List (List Int)} (h : ∀ k, k < yss.length → mapOk (gR yss k) = true) : yss.all mapOk = true := by
  rw [List.all_eq_true]
  intro x hx
  obtain ⟨k, hk, rfl⟩ := List.getElem_of_mem hx
  rw [← gR_get hk]; exact h k hk
theorem all_not {yss : List (List Int)} {k : Nat} (hk : k < yss.length) (h : mapOk (gR yss k) = false) : yss.all mapOk = false := by
  rw [gR_get hk] at h
  rw [List.all_eq_false]
  exact ⟨_, List.getElem_mem hk, by rw [h]; decide⟩
theorem desk_no1 {xs : List Int} {yss : List (List Int)} (h : mapOk xs = false) : deskOkB xs yss = false := by simp [deskOkB, h]
theorem desk_no2 {xs : List Int} {yss : List (List Int)} (h : ¬ yss.length ≤ 8) : deskOkB xs yss = false := by simp [deskOkB, h]
theorem desk_no3 {xs : List Int} {yss : List (List Int)} {k : Nat} (hk : k < yss.length) (h : mapOk (gR yss k) = false) : deskOkB xs yss = false := by rw [deskOkB, all_not hk h]; simp
theorem desk_yes {xs : List Int} {yss : List (List Int)} (h : mapOk xs = true) (h8 : yss.length ≤ 8) (ha : ∀ k, k < yss.length → mapOk (gR yss k) = true) : deskOkB xs yss = true := by rw [deskOkB, all_gR ha]; simp [h, h8]

set_option maxRecDepth 100000 in
set_option maxHeartbeats 800000 in
theorem deskOk_c (A P : Option Addr) (n c m d : Nat) (xs : List Int) (yss : List (List Int)) (w : World) (h : RdD w w.heap.size A n c xs P m d yss) :
    Calls Tryz.prog 15 #[.agg #[.slice A n c, .slice P m d]] w fun e w' => e = .returned (.bool (deskOkB xs yss)) ∧ Below w.heap.size w w' := by
  have hb1 : Below w.heap.size w (w.alloc (.cells #[.slice A n c, .slice P m d] 26)) := (Below.refl _ _).alloc (Nat.le_refl _) _
  have h1 := h.1.up hb1
  have h2 := h.2.up hb1
  have hl := h.2.len
  have hmx := h.2.max
  have hcp := h.2.cap
  unfold maxLen at hmx
  rcases hm : mapOk xs with _ | _
  · have HE := Lib.hid (desk_no1 (yss := yss) hm)
    go_enter Tryz.func15, Tryz.ntmps15
    go_wp2_with (go_at_call 68; refine (mapOk_c _ _ _ _ _ h1).mono ?_; rintro e w' ⟨rfl, rfl⟩)
    go_ret
    exact ⟨boolEnd HE.out.symm, hb1⟩
  by_cases h8 : m ≤ 8
  · go_enter Tryz.func15, Tryz.ntmps15
    go_wp2_with (go_at_call 68; refine (mapOk_c _ _ _ _ _ h1).mono ?_; rintro e w' ⟨rfl, rfl⟩)
    go_loopw [18] (fun i wr => ∃ k : Nat, k ≤ m ∧ i = .int .i64 k ∧ (∀ j, j < k → mapOk (gR yss j) = true) ∧ wr = w.alloc (.cells #[.slice A n c, .slice P m d] 26)) (fun i _ => m - (intOf i).toNat)
    case atStart => exact ⟨0, Nat.zero_le _, rfl, fun j hj => absurd hj (Nat.not_lt_zero _), rfl⟩
    case round =>
      obtain ⟨k, hk, rfl, hall, rfl⟩ := hrel
      have HA := Lib.hid hall
      clear hall
      by_cases hlt : k < m
      · obtain ⟨b, off, A1, n1, c1, rfl, hb, hcell, hr⟩ := h2.at_ hlt
        rcases hq : mapOk (gR yss k) with _ | _
        · have HE := Lib.hid (desk_no3 (xs := xs) (by omega) hq)
          go_wp2_with (go_at_call 68; refine (mapOk_c _ _ _ _ _ hr).mono ?_; rintro e w' ⟨rfl, rfl⟩)
          go_ret
          exact ⟨boolEnd HE.out.symm, hb1⟩
        · have HQ := Lib.hid hq
          go_wp2_with (go_at_call 68; refine (mapOk_c _ _ _ _ _ hr).mono ?_; rintro e w' ⟨rfl, rfl⟩)
          go_roundw
          case rel => exact ⟨k + 1, by omega, by go_num, fun j hj => by
            rcases Nat.lt_or_ge j k with h' | h'
            · exact HA.out j h'
            · obtain rfl : j = k := by omega
              exact HQ.out, trivial⟩
          case measure => simp [intOf]; omega
      · obtain rfl : k = m := by omega
        have HE := Lib.hid (desk_yes (yss := yss) hm (by omega) (by rw [hl]; exact HA.out))
        go_wp2
        go_ret
        exact ⟨boolEnd HE.out.symm, hb1⟩
  · have HE := Lib.hid (desk_no2 (xs := xs) (yss := yss) (by omega))
    go_enter Tryz.func15, Tryz.ntmps15
    go_wp2_with (go_at_call 68; refine (mapOk_c _ _ _ _ _ h1).mono ?_; rintro e w' ⟨rfl, rfl⟩)
    go_ret
    exact ⟨boolEnd HE.out.symm, hb1⟩

set_option maxRecDepth 100000 in
set_option maxHeartbeats 800000 in
theorem sDeskOk_c (A P : Option Addr) (n c m d : Nat) (xs : List Int) (yss : List (List Int)) (w : World) (h : RdD w w.heap.size A n c xs P m d yss) :
    Calls Tryz.prog 12 #[.agg #[.slice A n c, .slice P m d]] w fun e w' => e = .returned (.bool (deskOkB xs yss)) ∧ Below w.heap.size w w' := by
  have hb1 : Below w.heap.size w (w.alloc (.cells #[.slice A n c, .slice P m d] 26)) := (Below.refl _ _).alloc (Nat.le_refl _) _
  have h1 := h.1.up hb1
  have h2 := h.2.up hb1
  have hl := h.2.len
  have hmx := h.2.max
  have hcp := h.2.cap
  unfold maxLen at hmx
  go_enter Tryz.func12, Tryz.ntmps12
  go_wp2_with fail
  go_loopw [3] (fun i wr => ∃ k : Nat, k ≤ m ∧ i = .int .i64 k ∧ (∀ j, j < k → mapOk (gR yss j) = true) ∧ ∃ q, wr = (w.alloc (.cells #[.slice A n c, .slice P m d] 26)).drewN q) (fun i _ => m - (intOf i).toNat)
  case atStart => exact ⟨0, Nat.zero_le _, rfl, fun j hj => absurd hj (Nat.not_lt_zero _), 0, rfl⟩
  case round =>
    obtain ⟨k, hk, rfl, hall, q, rfl⟩ := hrel
    have HA := Lib.hid hall
    clear hall
    by_cases hlt : k < m
    · obtain ⟨b, off, A1, n1, c1, rfl, hb, hcell, hr⟩ := h2.at_ hlt
      rcases hq : mapOk (gR yss k) with _ | _
      · have HE := Lib.hid (desk_no3 (xs := xs) (by omega) hq)
        go_wp2_with (go_at_call 67; refine (sMapOk_c _ _ _ _ _ (hr.dn q)).mono ?_; rintro e w' ⟨rfl, rfl⟩)
        go_ret
        exact ⟨boolEnd HE.out.symm, bd hb1 _⟩
      · have HQ := Lib.hid hq
        go_wp2_with (go_at_call 67; refine (sMapOk_c _ _ _ _ _ (hr.dn q)).mono ?_; rintro e w' ⟨rfl, rfl⟩)
        go_roundw
        case rel => exact ⟨k + 1, by omega, by go_num, fun j hj => by
          rcases Nat.lt_or_ge j k with h' | h'
          · exact HA.out j h'
          · obtain rfl : j = k := by omega
            exact HQ.out, _, rfl⟩
        case measure => simp [intOf]; omega
    · obtain rfl : k = m := by omega
      rcases hm : mapOk xs with _ | _
      · have HE := Lib.hid (desk_no1 (yss := yss) hm)
        go_wp2_with (go_at_call 67; refine (sMapOk_c _ _ _ _ _ (h1.dn q)).mono ?_; rintro e w' ⟨rfl, rfl⟩)
        go_ret
        exact ⟨boolEnd HE.out.symm, bd hb1 _⟩
      · by_cases h8 : k ≤ 8
        · have HE := Lib.hid (desk_yes (yss := yss) hm (by omega) (by rw [hl]; exact HA.out))
          go_wp2_with (go_at_call 67; refine (sMapOk_c _ _ _ _ _ (h1.dn q)).mono ?_; rintro e w' ⟨rfl, rfl⟩)
          go_ret
          exact ⟨boolEnd ((decide_eq_true (by omega)).trans HE.out.symm), bd hb1 _⟩
        · have HE := Lib.hid (desk_no2 (xs := xs) (yss := yss) (by omega))
          go_wp2_with (go_at_call 67; refine (sMapOk_c _ _ _ _ _ (h1.dn q)).mono ?_; rintro e w' ⟨rfl, rfl⟩)
          go_ret
          exact ⟨boolEnd ((decide_eq_false (by omega)).trans HE.out.symm), bd hb1 _⟩

theorem eqBB_self (yss : List (List Int)) : eqBB yss yss = true := decide_eq_true rfl
theorem RdD.up {w w' : World} {A P : Option Addr} {n c m d : Nat} {xs : List Int} {yss : List (List Int)} (h : RdD w w.heap.size A n c xs P m d yss) (hb : Below w.heap.size w w') : RdD w' w'.heap.size A n c xs P m d yss := ⟨h.1.up hb, h.2.up hb⟩
end Go.Proofs.YtoinlkdmfclnbaaGreatDoor
namespace Go.Proofs.YtoinlkdmfclnbaaGreatDoor
set_option linter.unusedVariables false
open Go.RowKit

/-- An append of a whole row to an empty row of the call's own, as one step of a walk. -/
theorem app_row {ops : Array Oper} {rest : List Oper} {o : Oper} {a : Act} {Q : Exit → Act → World → Prop} (w : World) (hgd : o.guard = none) (s x : Operand)
    (ho : o.op = .call { callee := .builtin .append, args := #[s, x], argTypes := #[23, 23] })
    (B : Nat) (v : Value) (hs : a.eval s = v) (hown : OwnV w B v []) (A : Option Addr) (n c : Nat) (xs : List Int) (hx : a.eval x = .slice A n c) (hr : Rd w w.heap.size A n c xs) (h0 : 0 < n)
    (hlen : n ≤ 1000000000000) (hB : B ≤ w.heap.size)
    (h : ∀ v' w', OwnV w' B v' xs → Below B w w' → wpList Tryz.prog ops Q rest (a.put o.dst v') w') :
    wpList Tryz.prog ops Q (o :: rest) a w := by
  obtain ⟨i0, hi, hz0, hz1, hz2⟩ := info_parts int_info
  obtain ⟨b, off, rfl, hb, hcell⟩ := hr.2.2.2 h0
  have hl := hr.len
  refine wpList_append_own _ hgd s x 23 ho B 3 i0 (.int .i64 0) 1 8 Tryz.underlying23 hi hz0 hz1 hz2 rfl (by decide) v 0 [] hs (by simpa [OwnV] using hown) ⟨b, off, none⟩ n c (xs.map (Value.int .i64)) hx (by simp [hl]) (fun j u hj => ?_) (by simp [Value.oneCell']) (by unfold maxLen; omega) (by omega) (by simpa using hB) ?_
  · have hjn : j < n := by
      rcases Nat.lt_or_ge j (xs.map (Value.int .i64)).length with h' | h'
      · rw [List.length_map, hl] at h'; exact h'
      · rw [List.getElem?_eq_none h'] at hj; cases hj
    rw [Addr.add_lit, hcell j hjn]
    rw [List.getElem?_map, List.getElem?_eq_getElem (by omega)] at hj
    simp only [Option.map_some, Option.some.injEq] at hj
    rw [← hj, gI_get (by omega)]
  · intro v' w' hown' hg _
    refine h v' w' ?_ ((Below.refl B w).grown hg hB (fun k hk => (hown.lt k hk).1))
    unfold OwnV
    rw [hl]
    simpa using hown'
set_option maxHeartbeats 400000 in
theorem clone_c (A : Option Addr) (n c : Nat) (xs : List Int) (w : World) (h : Rd w w.heap.size A n c xs) (h0 : 0 < n) (hn : n ≤ 1000000000000) :
    Calls Tryz.prog 100 #[.slice A n c] w fun e w' => ∃ A' c', e = .returned (.slice A' n c') ∧ OwnIn w' w.heap.size w'.heap.size A' n c' xs ∧ Below w.heap.size w w' := by
  obtain ⟨b, off, rfl, hb, hcell⟩ := h.2.2.2 h0
  have hl := h.len
  have hb1 : Below w.heap.size w (w.alloc (.cells #[] 3)) := (Below.refl _ _).alloc (Nat.le_refl _) _
  have hO := OwnV.made w w.heap.size #[] (Nat.le_refl _) rfl
  have hrd := h.up hb1
  have hs1 := hb1.size
  have hnil : (binOp .eql 23 (.slice (some ⟨b, off, none⟩) n c) (.slice none 0 0)).run Tryz.prog w = .ok (.bool false) w := by
    apply Lib.run_eql_slice_nil
    exact Tryz.underlying23
  go_enter Tryz.func100, Tryz.ntmps100
  go_wp2_with (at_builtin; refine app_row (w.alloc (.cells #[] 3)) rfl _ _ rfl w.heap.size _ rfl hO (some ⟨b, off, none⟩) n c xs rfl hrd h0 hn hs1 ?_; intro v' w' hown' hb')
  obtain ⟨A', c', rfl, hown⟩ := hown'.form
  go_ret
  exact ⟨A', c', by rw [← hl]; rfl, by rw [← hl]; exact hown.inn, hb1.trans hb'⟩

/-! ### DeskNew -/
def NewOut (w : World) (xs : List Int) (e : Ending) (w' : World) : Prop :=
  ∃ A n c, e = .returned (.tuple #[.agg #[.slice A n c, .slice none 0 0], .bool (mapOk xs)]) ∧ OwnIn w' w.heap.size w'.heap.size A n c (if mapOk xs then xs else []) ∧ Below w.heap.size w w'
theorem mapOk_bounds {xs : List Int} (h : mapOk xs = true) : 1 ≤ xs.length ∧ xs.length ≤ 7 := by
  unfold mapOk at h
  simp only [Bool.and_eq_true, decide_eq_true_eq] at h
  exact h.1
set_option maxRecDepth 100000 in
set_option maxHeartbeats 800000 in
theorem sameRows_c (A A' : Option Addr) (n c n' c' : Nat) (xs ys : List (List Int)) (w : World) (h : RdR w w.heap.size A n c xs) (h' : RdR w w.heap.size A' n' c' ys) :
    Calls Tryz.prog 66 #[.slice A n c, .slice A' n' c'] w fun e w' => e = .returned (.bool (eqBB xs ys)) ∧ ∃ m, w' = w.drewN m := by
  have HL := Lib.hid h.len
  have HL' := Lib.hid h'.len
  have hm := h.max
  have hc := h.cap
  have hm' := h'.max
  have hc' := h'.cap
  unfold maxLen at hm hm'
  by_cases hne : n = n'
  · subst hne
    go_enter Tryz.func66, Tryz.ntmps66
    go_wp2
    go_loopw [5] (fun i wr => ∃ k : Nat, k ≤ n ∧ i = .int .i64 k ∧ (∀ j, j < k → gR xs j = gR ys j) ∧ ∃ m, wr = w.drewN m) (fun i _ => n - (intOf i).toNat)
    case atStart => exact ⟨0, Nat.zero_le _, rfl, fun j hj => absurd hj (Nat.not_lt_zero _), 0, rfl⟩
    case round =>
      obtain ⟨k, hk, rfl, hall, m, rfl⟩ := hrel
      have HA := Lib.hid hall
      clear hall
      by_cases hlt : k < n
      · obtain ⟨b, off, A1, n1, c1, rfl, hb, hcell, hr⟩ := h.at_ hlt
        obtain ⟨b', off', A2, n2, c2, rfl, hb', hcell', hr'⟩ := h'.at_ hlt
        rcases he : eqB (gR xs k) (gR ys k) with _ | _
        · have HE := Lib.hid (of_decide_eq_false he)
          go_wp2
          go_quiet ((go_at_call 65; exact qA (sameInts_c A1 A2 n1 c1 n2 c2 (gR xs k) (gR ys k) _ (hr.dn _) (hr'.dn _))))
          go_wp2
          go_ret
          exact ⟨boolEnd (decide_eq_false (fun e => HE.out (by rw [e]))).symm, _, World.drewN_drewN ..⟩
        · have HE := Lib.hid (of_decide_eq_true he)
          go_wp2
          go_quiet ((go_at_call 65; exact qA (sameInts_c A1 A2 n1 c1 n2 c2 (gR xs k) (gR ys k) _ (hr.dn _) (hr'.dn _))))
          go_wp2
          go_roundw
          case rel => exact ⟨k + 1, by omega, by go_num, fun j hj => by
            rcases Nat.lt_or_ge j k with h' | h'
            · exact HA.out j h'
            · obtain rfl : j = k := by omega
              exact HE.out, _, rfl⟩
          case measure => simp [intOf]; omega
      · go_wp2
        go_ret
        exact ⟨boolEnd (decide_eq_true (eq_of_gR (by rw [HL.out, HL'.out]) (fun j hj => HA.out j (by have := HL.out; omega)))).symm, _, rfl⟩
  · have hq : ((n : Int) != (n' : Int)) = true := by simp; omega
    go_enter Tryz.func66, Tryz.ntmps66
    go_wp2
    go_ret
    exact ⟨boolEnd (decide_eq_false (fun e => hne (by rw [← HL.out, ← HL'.out, e]))).symm, 0, rfl⟩


end Go.Proofs.YtoinlkdmfclnbaaGreatDoor
namespace Go.Proofs.YtoinlkdmfclnbaaGreatDoor
set_option linter.unusedVariables false
open Go.RowKit

set_option maxRecDepth 100000 in
set_option maxHeartbeats 800000 in
theorem sDeskNew_c (A : Option Addr) (n c : Nat) (xs : List Int) (w : World) (h : Rd w w.heap.size A n c xs) :
    Calls Tryz.prog 94 #[.slice A n c] w (NewOut w xs) := by
  have hr := Two.made w 26 (.slice none 0 0) (.slice none 0 0)
  have hb1 : Below w.heap.size w (w.alloc (.cells #[.slice none 0 0, .slice none 0 0] 26)) := (Below.refl _ _).alloc (Nat.le_refl _) _
  have h1 := h.up hb1
  have hl := h.len
  rcases hm : mapOk xs with _ | _
  · have hpost : NewOut w xs (.returned (.tuple #[.agg #[.slice none 0 0, .slice none 0 0], .bool false])) (w.alloc (.cells #[.slice none 0 0, .slice none 0 0] 26)) :=
      ⟨none, 0, 0, by rw [hm], by rw [hm]; exact OwnIn.nil_ _ _ _, hb1⟩
    have HP := Lib.hid hpost
    have HE := Lib.hid hr
    clear hpost hr
    go_enter Tryz.func94, Tryz.ntmps94
    go_wp2_with (go_at_call 67; refine (sMapOk_c _ _ _ _ _ h1).mono ?_; rintro e w' ⟨rfl, rfl⟩)
    (try simp only [Exit.inBlock, Exit.then])
    refine bodyPost_ret (v := .tuple #[.agg #[.slice none 0 0, .slice none 0 0], .bool false]) ?_ rfl HP.out
    exact Eq.trans (results_two_tmp (p := 2) (u := 3) rfl _ _ w.heap.size _ _ _ rfl HE.out Tryz.underlying26 rfl desk_size) rfl
  · have hbd := mapOk_bounds hm
    have h0 : 0 < n := by omega
    have hn : n ≤ 1000000000000 := by omega
    go_enter Tryz.func94, Tryz.ntmps94
    go_wp2_with fail
    refine (sMapOk_c _ _ _ _ _ h1).mono ?_
    rintro e w' ⟨rfl, rfl⟩
    generalize w.alloc (.cells #[.slice none 0 0, .slice none 0 0] 26) = w1 at *
    have hs1 := hb1.size
    have hb2 : Below w1.heap.size w1 (w1.alloc (.cells #[] 3)) := (Below.refl _ _).alloc (Nat.le_refl _) _
    have hO := OwnV.made w1 w1.heap.size #[] (Nat.le_refl _) rfl
    have hrd := h1.up hb2
    have hs2 := hb2.size
    have hra := hr.up hb2
    go_wp2_with (at_builtin; refine app_row (w1.alloc (.cells #[] 3)) rfl _ _ rfl w1.heap.size _ rfl hO A n c xs rfl hrd h0 hn hs2 ?_; intro v' w2 hown' hb'; obtain ⟨A2, c2, rfl, hown⟩ := hown'.form; have hr2 := hr.below (hb2.trans hb') hr.1; obtain ⟨hg, h20, h21, hf0, hf1⟩ := id hr2)
    have hw := hr.1
    have hO2 := hown.inn
    rw [hl] at hO2
    have hbb := hb2.trans hb'
    have hend := (hr2.set0 (.slice A2 n c2)).set1 (.slice none 0 0)
    have hch : Chg w.heap.size (w.heap.size + 1) w2 ((w2.setCell ⟨w.heap.size, 0, none⟩ (.slice A2 n c2)).setCell ⟨w.heap.size, 1, none⟩ (.slice none 0 0)) :=
      ((Chg.refl _ _ w2).setCell (p := ⟨w.heap.size, 0, none⟩) (Nat.le_refl w.heap.size) (Nat.lt_succ_self w.heap.size) _).setCell (p := ⟨w.heap.size, 1, none⟩) (Nat.le_refl w.heap.size) (Nat.lt_succ_self w.heap.size) _
    have hpost : NewOut w xs (.returned (.tuple #[.agg #[.slice A2 n c2, .slice none 0 0], .bool true])) ((w2.setCell ⟨w.heap.size, 0, none⟩ (.slice A2 n c2)).setCell ⟨w.heap.size, 1, none⟩ (.slice none 0 0)) :=
      ⟨A2, n, c2, by rw [hm], by rw [hm]; exact (hO2.chg hch (.inr (by omega))).wide (by omega) hch.size, (hb1.trans (hbb.mono hs1)).trans (hch.belowLo (Nat.le_refl _) (by have := hbb.size; omega))⟩
    (try simp only [Exit.inBlock, Exit.then])
    refine bodyPost_ret (v := .tuple #[.agg #[.slice A2 n c2, .slice none 0 0], .bool true]) ?_ rfl hpost
    exact Eq.trans (results_two_tmp (p := 2) (u := 3) rfl _ _ w.heap.size _ _ _ rfl hend Tryz.underlying26 rfl desk_size) rfl

set_option maxRecDepth 100000 in
set_option maxHeartbeats 800000 in
theorem sameDesk_c (A P A' P' : Option Addr) (n c m d n' c' m' d' : Nat) (xs xs' : List Int) (yss yss' : List (List Int)) (w : World) (h : RdD w w.heap.size A n c xs P m d yss) (h' : RdD w w.heap.size A' n' c' xs' P' m' d' yss') :
    Calls Tryz.prog 11 #[.agg #[.slice A n c, .slice P m d], .agg #[.slice A' n' c', .slice P' m' d']] w fun e w' => e = .returned (.bool (eqB xs xs' && eqBB yss yss')) ∧ Below w.heap.size w w' := by
  have hb1 : Below w.heap.size w (w.alloc (.cells #[.slice A n c, .slice P m d] 26)) := (Below.refl _ _).alloc (Nat.le_refl _) _
  have hb2 : Below w.heap.size w ((w.alloc (.cells #[.slice A n c, .slice P m d] 26)).alloc (.cells #[.slice A' n' c', .slice P' m' d'] 26)) := hb1.alloc (by simp) _
  have h1 := h.1.up hb2
  have h2 := h.2.up hb2
  have h1' := h'.1.up hb2
  have h2' := h'.2.up hb2
  clear hb1
  go_enter Tryz.func11, Tryz.ntmps11
  go_wp2_with fail
  refine (sameInts_c A A' n c n' c' xs xs' _ h1 h1').mono ?_
  rintro e w' ⟨rfl, k, rfl⟩
  rcases hq : eqB xs xs' with _ | _
  · go_wp2_with fail
    go_ret
    exact ⟨by rw [hq]; rfl, bd hb2 k⟩
  · go_wp2_with fail
    refine (sameRows_c P P' m d m' d' yss yss' _ (h2.dn k) (h2'.dn k)).mono ?_
    rintro e w' ⟨rfl, k2, rfl⟩
    rcases hq2 : eqBB yss yss' with _ | _
    · go_wp2_with fail
      go_ret
      exact ⟨by rw [hq, hq2]; rfl, bd hb2 (k + k2)⟩
    · go_wp2_with fail
      go_ret
      exact ⟨by rw [hq, hq2]; rfl, bd hb2 (k + k2)⟩


set_option maxRecDepth 100000 in
set_option maxHeartbeats 800000 in
theorem noDesk_c (A P : Option Addr) (n c m d : Nat) (xs : List Int) (yss : List (List Int)) (w : World) (h : RdD w w.heap.size A n c xs P m d yss) :
    Calls Tryz.prog 13 #[.agg #[.slice A n c, .slice P m d]] w fun e w' => e = .returned (.bool (eqB xs [] && eqBB yss [])) ∧ Below w.heap.size w w' := by
  have hb1 : Below w.heap.size w (w.alloc (.cells #[.slice A n c, .slice P m d] 26)) := (Below.refl _ _).alloc (Nat.le_refl _) _
  have h1 := h.up hb1
  go_enter Tryz.func13, Tryz.ntmps13
  go_wp2_with fail
  refine (sameDesk_c A P none none n c m d 0 0 0 0 xs [] yss [] _ h1 ⟨Rd.nil_ _ _, RdR.nil_ _ _⟩).mono ?_
  rintro e w' ⟨rfl, hb2⟩
  go_wp2_with fail
  go_ret
  exact ⟨rfl, bt hb1 hb2⟩
end Go.Proofs.YtoinlkdmfclnbaaGreatDoor
namespace Go.Proofs.YtoinlkdmfclnbaaGreatDoor
set_option linter.unusedVariables false
open Go.RowKit

theorem markIntSS_nil (k0 : Int) (w : World) :
    Calls Tryz.prog 78 #[.slice none 0 0, .int .i64 k0] w fun e w' => e = .returned (.int .i64 k0) ∧ w = w' := by
  go_enter Tryz.func78, Tryz.ntmps78
  go_wp2_with fail
  go_loop [1, 5] (fun l i => i = .int .i64 0 ∧ l = .int .i64 k0) (fun _ i => 0)
  case atStart => exact ⟨rfl, rfl⟩
  case round =>
    obtain ⟨rfl, rfl⟩ := hrel
    go_wp2
    go_ret
    exact ⟨rfl, rfl⟩
theorem heldIntSS_nil (k0 : Int) (w : World) :
    Calls Tryz.prog 81 #[.slice none 0 0, .int .i64 k0] w fun e w' => e = .returned (.int .i64 k0) ∧ w = w' := by
  go_enter Tryz.func81, Tryz.ntmps81
  go_wp2_with fail
  go_loop [1, 5] (fun l i => i = .int .i64 0 ∧ l = .int .i64 k0) (fun _ i => 0)
  case atStart => exact ⟨rfl, rfl⟩
  case round =>
    obtain ⟨rfl, rfl⟩ := hrel
    go_wp2
    go_ret
    exact ⟨rfl, rfl⟩
set_option maxRecDepth 100000 in
set_option maxHeartbeats 800000 in
theorem markDesk_nil (A : Option Addr) (n c k0 lo hi : Nat) (xs : List Int) (w : World) (h : OwnIn w lo hi A n c xs) (hk0 : k0 + n ≤ 1000000000000) (hh : hi ≤ w.heap.size) :
    Calls Tryz.prog 26 #[.agg #[.slice A n c, .slice none 0 0], .int .i64 k0] w fun e w' => e = .returned (.int .i64 ((k0 + n : Nat) : Int)) ∧ OwnIn w' lo hi A n c (marks k0 n) ∧ Chg lo hi w w' := by
  have hb1 : Below w.heap.size w (w.alloc (.cells #[.slice A n c, .slice none 0 0] 26)) := (Below.refl _ _).alloc (Nat.le_refl _) _
  have ht := Two.made w 26 (.slice A n c) (.slice none 0 0)
  have h1 := h.up hb1
  go_enter Tryz.func26, Tryz.ntmps26
  go_wp2_with fail
  generalize w.alloc (.cells #[.slice A n c, .slice none 0 0] 26) = w1 at *
  refine (markIntS_c A n c k0 lo hi xs _ h1 hk0).mono ?_
  rintro e w2 ⟨rfl, hm, hc⟩
  have ht2 : w2.cell? ⟨w.heap.size, 1, none⟩ = some (.slice none 0 0) := (World.cell?_of_block (w := w1) (a := ⟨w.heap.size, 1, none⟩) (hc.block w.heap.size ht.1 (.inr hh))).trans ht.2.2.1
  have hcw : Chg lo hi w w2 := (Chg.of_below hb1).chg_ hc (.inr ⟨Nat.le_refl _, Nat.le_refl _⟩)
  go_wp2_with (go_at_call 78; refine (markIntSS_nil _ _).mono ?_; rintro e w' ⟨rfl, rfl⟩)
  go_ret
  exact ⟨rfl, hm, hcw⟩
set_option maxRecDepth 100000 in
set_option maxHeartbeats 800000 in
theorem heldDesk_nil (A : Option Addr) (n c k0 : Nat) (w : World) (h : Rd w w.heap.size A n c (marks k0 n)) (hk0 : k0 + n ≤ 1000000000000) :
    Calls Tryz.prog 28 #[.agg #[.slice A n c, .slice none 0 0], .int .i64 k0] w fun e w' => e = .returned (.int .i64 ((k0 + n : Nat) : Int)) ∧ Below w.heap.size w w' := by
  have hb1 : Below w.heap.size w (w.alloc (.cells #[.slice A n c, .slice none 0 0] 26)) := (Below.refl _ _).alloc (Nat.le_refl _) _
  have h1 := h.up hb1
  go_enter Tryz.func28, Tryz.ntmps28
  go_wp2_with fail
  refine (heldIntS_c A n c k0 _ h1 hk0).mono ?_
  rintro e w2 ⟨rfl, rfl⟩
  go_wp2_with (go_at_call 81; refine (heldIntSS_nil _ _).mono ?_; rintro e w' ⟨rfl, rfl⟩)
  go_ret
  exact ⟨rfl, hb1⟩
end Go.Proofs.YtoinlkdmfclnbaaGreatDoor
namespace Go.Proofs.YtoinlkdmfclnbaaGreatDoor
set_option linter.unusedVariables false
open Go.RowKit
theorem Two.chg {w w' : World} {g lo hi : Nat} {x y : Value} (h : Two w g x y) (hc : Chg lo hi w w') (hd : g < lo ∨ hi ≤ g) : Two w' g x y :=
  have e := hc.block g h.1 hd
  ⟨Nat.lt_of_lt_of_le h.1 hc.size, (World.cell?_of_block (w := w) (a := ⟨g, 0, none⟩) e).trans h.2.1, (World.cell?_of_block (w := w) (a := ⟨g, 1, none⟩) e).trans h.2.2.1, (World.frozen?_of_block (w := w) (a := ⟨g, 0, none⟩) e).trans h.2.2.2.1, (World.frozen?_of_block (w := w) (a := ⟨g, 1, none⟩) e).trans h.2.2.2.2⟩
theorem Two.dn {w : World} {g : Nat} {x y : Value} (h : Two w g x y) (m : Nat) : Two (w.drewN m) g x y := h
def newR (xs : List Int) : List Int := if mapOk xs then xs else []
theorem newR_len (xs : List Int) : (newR xs).length ≤ 7 := by
  unfold newR; split
  · rename_i h; exact (mapOk_bounds h).2
  · simp
theorem NewOut.get {w w' : World} {xs : List Int} {e : Ending} (h : NewOut w xs e w') : ∃ A n c, e = .returned (.tuple #[.agg #[.slice A n c, .slice none 0 0], .bool (mapOk xs)]) ∧ OwnIn w' w.heap.size w'.heap.size A n c (newR xs) ∧ Below w.heap.size w w' := h
end Go.Proofs.YtoinlkdmfclnbaaGreatDoor
