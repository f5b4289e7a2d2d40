/- Words for rows of deeds: read, and of the call's own. · Walks over rows of deeds: szDeedS, toDeedS, eqDeed, eqDeedS. · Walks over rows of deeds: eqDeedS, markText, markDeedS, heldDeedS. · Walks over rows of deeds: markDeedS, heldDeedS. · Walks: DeskRun of the program; what deeds make of a desk, one after the other. · Walk: DeskRun of the program, where deeds are done. · Walk: DeskRun of the reference. -/
import Derived.Test.YtoinlkdmfclnbaaGreatDoorV15
namespace Go.Proofs.YtoinlkdmfclnbaaGreatDoor
set_option linter.unusedVariables false
open Go.RowKit

abbrev Dd := Int × Int × Int × ByteArray
def dZ : Dd := (0, 0, 0, ⟨#[]⟩)
def dG (ds : List Dd) (k : Nat) : Dd := ds.getD k dZ
def dK (ds : List Dd) (k : Nat) : Int := (dG ds k).1
def dA (ds : List Dd) (k : Nat) : Int := (dG ds k).2.1
def dB (ds : List Dd) (k : Nat) : Int := (dG ds k).2.2.1
def dS (ds : List Dd) (k : Nat) : ByteArray := (dG ds k).2.2.2
theorem dG_get {ds : List Dd} {k : Nat} (h : k < ds.length) : dG ds k = ds[k] := by simp [dG, List.getD, List.getElem?_eq_getElem h]
theorem dG_eq (ds : List Dd) (k : Nat) : dG ds k = (dK ds k, dA ds k, dB ds k, dS ds k) := rfl
theorem eq_of_dG {ds es : List Dd} (hl : ds.length = es.length) (h : ∀ k, k < ds.length → dG ds k = dG es k) : ds = es := by
  apply List.ext_getElem hl
  intro k h1 h2
  have := h k h1
  rwa [dG_get h1, dG_get h2] at this
/-- The slice value reads as the deeds ds, below block B. -/
def RdE (w : World) (B : Nat) (A : Option Addr) (n c : Nat) (ds : List Dd) : Prop :=
  ds.length = n ∧ n ≤ c ∧ c ≤ maxLen ∧ (0 < n → ∃ b off, A = some ⟨b, off, none⟩ ∧ b < B ∧ ∀ k, k < n →
    w.cell? ⟨b, off + k * 4, none⟩ = some (.int .i64 (dK ds k)) ∧ w.cell? ⟨b, off + k * 4 + 1, none⟩ = some (.int .i64 (dA ds k)) ∧ w.cell? ⟨b, off + k * 4 + 2, none⟩ = some (.int .i64 (dB ds k)) ∧ w.cell? ⟨b, off + k * 4 + 3, none⟩ = some (.string (dS ds k)))
section
variable {w w' : World} {B B' n c : Nat} {A : Option Addr} {ds : List Dd}
theorem RdE.len (h : RdE w B A n c ds) : ds.length = n := h.1
theorem RdE.cap (h : RdE w B A n c ds) : n ≤ c := h.2.1
theorem RdE.max (h : RdE w B A n c ds) : c ≤ maxLen := h.2.2.1
theorem RdE.at_ (h : RdE w B A n c ds) {k : Nat} (hk : k < n) : ∃ b off, A = some ⟨b, off, none⟩ ∧ b < B ∧
    w.cell? ⟨b, off + k * 4, none⟩ = some (.int .i64 (dK ds k)) ∧ w.cell? ⟨b, off + k * 4 + 1, none⟩ = some (.int .i64 (dA ds k)) ∧ w.cell? ⟨b, off + k * 4 + 2, none⟩ = some (.int .i64 (dB ds k)) ∧ w.cell? ⟨b, off + k * 4 + 3, none⟩ = some (.string (dS ds k)) := by
  obtain ⟨b, off, e, hb, hc⟩ := h.2.2.2 (by omega)
  exact ⟨b, off, e, hb, hc k hk⟩
theorem RdE.nil_ (w : World) (B : Nat) : RdE w B none 0 0 [] := ⟨rfl, Nat.le_refl _, Nat.zero_le _, fun h => absurd h (by omega)⟩
theorem RdE.keep (h : RdE w B A n c ds) (hk : ∀ p : Addr, p.block < B → w'.cell? p = w.cell? p) : RdE w' B A n c ds :=
  ⟨h.1, h.2.1, h.2.2.1, fun hn => by
    obtain ⟨b, off, e, hb, hc⟩ := h.2.2.2 hn
    refine ⟨b, off, e, hb, fun k hk' => ?_⟩
    obtain ⟨h1, h2, h3, h4⟩ := hc k hk'
    exact ⟨(hk _ hb).trans h1, (hk _ hb).trans h2, (hk _ hb).trans h3, (hk _ hb).trans h4⟩⟩
theorem RdE.more (h : RdE w B A n c ds) (hB : B ≤ B') : RdE w B' A n c ds :=
  ⟨h.1, h.2.1, h.2.2.1, fun hn => by
    obtain ⟨b, off, e, hb, hc⟩ := h.2.2.2 hn
    exact ⟨b, off, e, by omega, hc⟩⟩
theorem RdE.below (h : RdE w B A n c ds) (hb : Below B w w') : RdE w' B A n c ds := h.keep fun _ hp => hb.cell hp
theorem RdE.up (h : RdE w w.heap.size A n c ds) (hb : Below w.heap.size w w') : RdE w' w'.heap.size A n c ds := (h.below hb).more hb.size
theorem RdE.dn (h : RdE w w.heap.size A n c ds) (m : Nat) : RdE (w.drewN m) (w.drewN m).heap.size A n c ds := h.keep fun _ _ => rfl
end
/-- the deeds' values, one behind the other -/
def flatD (ds : List Dd) : List Value := ds.flatMap fun d => [.int .i64 d.1, .int .i64 d.2.1, .int .i64 d.2.2.1, .string d.2.2.2]
theorem flatD_cons (d : Dd) (ds : List Dd) : flatD (d :: ds) = .int .i64 d.1 :: .int .i64 d.2.1 :: .int .i64 d.2.2.1 :: .string d.2.2.2 :: flatD ds := rfl
theorem flatD_len (ds : List Dd) : (flatD ds).length = ds.length * 4 := by
  induction ds with
  | nil => rfl
  | cons d r ih => rw [flatD_cons]; simp only [List.length_cons, ih]; omega
theorem flatD_app (ds es : List Dd) : flatD (ds ++ es) = flatD ds ++ flatD es := by simp [flatD]
theorem flatD_at : ∀ (ds : List Dd) (k : Nat), k < ds.length → (flatD ds)[k * 4]? = some (.int .i64 (dK ds k)) ∧ (flatD ds)[k * 4 + 1]? = some (.int .i64 (dA ds k)) ∧ (flatD ds)[k * 4 + 2]? = some (.int .i64 (dB ds k)) ∧ (flatD ds)[k * 4 + 3]? = some (.string (dS ds k))
  | [], k, h => by simp at h
  | d :: r, 0, _ => by rw [flatD_cons]; exact ⟨rfl, rfl, rfl, rfl⟩
  | d :: r, k + 1, h => by
    have := flatD_at r k (by simpa using h)
    rw [flatD_cons, show (k + 1) * 4 = k * 4 + 4 by omega]
    exact this
theorem flatD_set : ∀ (ds : List Dd) (k : Nat) (d : Dd), k < ds.length → flatD (ds.set k d) = ((((flatD ds).set (k * 4) (.int .i64 d.1)).set (k * 4 + 1) (.int .i64 d.2.1)).set (k * 4 + 2) (.int .i64 d.2.2.1)).set (k * 4 + 3) (.string d.2.2.2)
  | [], k, d, h => by simp at h
  | e :: r, 0, d, _ => by rw [List.set_cons_zero, flatD_cons, flatD_cons]; rfl
  | e :: r, k + 1, d, h => by
    have := flatD_set r k d (by simpa using h)
    rw [List.set_cons_succ, flatD_cons, flatD_cons, this, show (k + 1) * 4 = k * 4 + 4 by omega]
    rfl
/-- A row of deeds of the call's own whose block lies from lo on, and below hi. -/
def OwnE (w : World) (lo hi : Nat) (A : Option Addr) (n c : Nat) (ds : List Dd) : Prop :=
  ds.length = n ∧ w.ownsRow lo 55 4 (.slice A n c) n (flatD ds) ∧ ∀ k, (Value.slice A n c).ownBlock = some k → k < hi
section
variable {lo hi lo' hi' B n c g : Nat} {w w' : World} {A : Option Addr} {ds : List Dd}
theorem OwnE.len (h : OwnE w lo hi A n c ds) : ds.length = n := h.1
theorem OwnE.nil_ (w : World) (lo hi : Nat) : OwnE w lo hi none 0 0 [] := ⟨rfl, World.ownsRow_nil _ _ _ _, fun k hk => by cases hk⟩
theorem OwnE.lt (h : OwnE w lo hi A n c ds) : ∀ k, (Value.slice A n c).ownBlock = some k → lo ≤ k ∧ k < hi ∧ k < w.heap.size := fun k hk => ⟨(h.2.1.lt k hk).1, h.2.2 k hk, (h.2.1.lt k hk).2⟩
theorem OwnE.wide (h : OwnE w lo hi A n c ds) (h1 : lo' ≤ lo) (h2 : hi ≤ hi') : OwnE w lo' hi' A n c ds :=
  ⟨h.1, ⟨h.2.1.1, h.2.1.2.elim .inl fun ⟨g, cap, cur, e', hg, r⟩ => .inr ⟨g, cap, cur, e', by omega, r⟩⟩, fun k hk => by have := h.2.2 k hk; omega⟩
theorem OwnE.keep (h : OwnE w lo hi A n c ds) (hk : ∀ k, lo ≤ k → k < hi → k < w.heap.size → w'.heap[k]? = w.heap[k]?) : OwnE w' lo hi A n c ds :=
  ⟨h.1, ownsRow_keep h.2.1 h.2.2 hk, h.2.2⟩
theorem OwnE.up (h : OwnE w lo hi A n c ds) (hb : Below w.heap.size w w') : OwnE w' lo hi A n c ds := h.keep fun k _ _ h3 => hb.block k h3
theorem OwnE.chg (h : OwnE w lo hi A n c ds) (hc : Chg lo' hi' w w') (hd : hi ≤ lo' ∨ hi' ≤ lo) : OwnE w' lo hi A n c ds := h.keep fun k _ _ h3 => hc.block k h3 (by omega)
theorem OwnE.dn (h : OwnE w lo hi A n c ds) (m : Nat) : OwnE (w.drewN m) lo hi A n c ds := h
theorem OwnE.some_ (h : OwnE w lo hi A n c ds) (hn : 0 < n) : ∃ g, A = some ⟨g, 0, none⟩ := by
  rcases h.2.1.2 with ⟨e, h0⟩ | ⟨g, cap, cur, e, _⟩
  · omega
  · cases e; exact ⟨g, rfl⟩
theorem OwnE.cell (h : OwnE w lo hi (some ⟨g, 0, none⟩) n c ds) {k : Nat} (hk : k < n) :
    w.cell? ⟨g, k * 4, none⟩ = some (.int .i64 (dK ds k)) ∧ w.cell? ⟨g, k * 4 + 1, none⟩ = some (.int .i64 (dA ds k)) ∧ w.cell? ⟨g, k * 4 + 2, none⟩ = some (.int .i64 (dB ds k)) ∧ w.cell? ⟨g, k * 4 + 3, none⟩ = some (.string (dS ds k)) := by
  obtain ⟨h1, h2, h3, h4⟩ := flatD_at ds k (by rw [h.1]; exact hk)
  exact ⟨(h.2.1.cellAt _ (by omega)).trans h1, (h.2.1.cellAt _ (by omega)).trans h2, (h.2.1.cellAt _ (by omega)).trans h3, (h.2.1.cellAt _ (by omega)).trans h4⟩
theorem OwnE.frozen (h : OwnE w lo hi (some ⟨g, 0, none⟩) n c ds) (j : Nat) : w.frozen? ⟨g, j, none⟩ = false := h.2.1.frozenAt j
theorem OwnE.rd (h : OwnE w lo hi A n c ds) : RdE w w.heap.size A n c ds := by
  rcases h.2.1.2 with ⟨e, rfl⟩ | ⟨g, cap, cur, e, hb, hg, hnc, hcm, hcs, ht⟩
  · cases e
    exact ⟨h.1, Nat.le_refl _, Nat.zero_le _, fun h => absurd h (by omega)⟩
  · cases e
    refine ⟨h.1, hnc, hcm, fun _ => ⟨g, 0, rfl, (Array.getElem?_eq_some_iff.1 hg).1, fun k hk => ?_⟩⟩
    have := h.cell hk
    simpa using this
/-- one deed stored, field by field -/
theorem OwnE.store (h : OwnE w lo hi (some ⟨g, 0, none⟩) n c ds) {k : Nat} (hk : k < n) (d : Dd) :
    OwnE ((((w.setCell ⟨g, k * 4, none⟩ (.int .i64 d.1)).setCell ⟨g, k * 4 + 1, none⟩ (.int .i64 d.2.1)).setCell ⟨g, k * 4 + 2, none⟩ (.int .i64 d.2.2.1)).setCell ⟨g, k * 4 + 3, none⟩ (.string d.2.2.2)) lo hi (some ⟨g, 0, none⟩) n c (ds.set k d) ∧
    Chg lo hi w ((((w.setCell ⟨g, k * 4, none⟩ (.int .i64 d.1)).setCell ⟨g, k * 4 + 1, none⟩ (.int .i64 d.2.1)).setCell ⟨g, k * 4 + 2, none⟩ (.int .i64 d.2.2.1)).setCell ⟨g, k * 4 + 3, none⟩ (.string d.2.2.2)) := by
  have h1 := h.lt g rfl
  have h2 := ((((h.2.1.stored (k * 4) (.int .i64 d.1)).1.stored (k * 4 + 1) (.int .i64 d.2.1)).1.stored (k * 4 + 2) (.int .i64 d.2.2.1)).1.stored (k * 4 + 3) (.string d.2.2.2)).1
  refine ⟨⟨by simpa using h.1, by rw [flatD_set _ _ _ (by rw [h.1]; exact hk)]; exact h2, h.2.2⟩, ((((Chg.refl lo hi w).setCell h1.1 h1.2.1 _).setCell h1.1 h1.2.1 _).setCell h1.1 h1.2.1 _).setCell h1.1 h1.2.1 _⟩
end
/-- the first k of the deeds, noughts behind them -/
def dT (ds : List Dd) (k : Nat) : List Dd := ds.take k ++ List.replicate (ds.length - k) dZ
theorem dT_len (ds : List Dd) (k : Nat) (h : k ≤ ds.length) : (dT ds k).length = ds.length := by simp [dT]; omega
theorem dT_zero (ds : List Dd) : dT ds 0 = List.replicate ds.length dZ := by simp [dT]
theorem dT_all (ds : List Dd) : dT ds ds.length = ds := by simp [dT]
theorem dT_succ (ds : List Dd) {k : Nat} (h : k < ds.length) : (dT ds k).set k (dG ds k) = dT ds (k + 1) := by
  unfold dT
  have hl : (ds.take k).length = k := by rw [List.length_take]; omega
  rw [List.set_append_right _ _ (by omega), hl, Nat.sub_self, show ds.length - k = (ds.length - (k + 1)) + 1 by omega, List.replicate_succ, List.set_cons_zero, List.take_succ_eq_append_getElem h, dG_get h, List.append_assoc]
  rfl
theorem dG_rep (n k : Nat) : dG (List.replicate n dZ) k = dZ := by
  unfold dG; simp only [List.getD, List.getElem?_replicate]; split <;> rfl
theorem flatD_rep (n : Nat) : (madeCells #[Value.int .i64 0, .int .i64 0, .int .i64 0, .string ⟨#[]⟩] (n * 4)).toList = flatD (List.replicate n dZ) := by
  apply List.ext_getElem?
  intro j
  by_cases hj : j < n * 4
  · obtain ⟨q, r, hr, rfl⟩ : ∃ q r, r < 4 ∧ j = q * 4 + r := ⟨j / 4, j % 4, by omega, by omega⟩
    obtain ⟨h0, h1, h2, h3⟩ := flatD_at (List.replicate n dZ) q (by simp; omega)
    unfold dK dA dB dS at *
    rw [dG_rep] at h0 h1 h2 h3
    have e : (q * 4 + r) % 4 = r := by omega
    have hl : (madeCells #[Value.int .i64 0, .int .i64 0, .int .i64 0, .string ⟨#[]⟩] (n * 4)).toList[q * 4 + r]? = (#[Value.int .i64 0, .int .i64 0, .int .i64 0, .string ⟨#[]⟩] : Array Value)[r]? := by
      have hr' : r < (#[Value.int .i64 0, .int .i64 0, .int .i64 0, .string ⟨#[]⟩] : Array Value).size := hr
      simp only [madeCells, Array.toList_map, List.getElem?_map, Array.toList_range]
      rw [List.getElem?_range hj]
      show some ((#[Value.int .i64 0, .int .i64 0, .int .i64 0, .string ⟨#[]⟩] : Array Value)[(q * 4 + r) % 4]!) = _
      rw [e, getElem!_pos _ r hr', getElem?_pos _ r hr']
    rw [hl]
    match r, hr with
    | 0, _ => exact h0.symm
    | 1, _ => exact h1.symm
    | 2, _ => exact h2.symm
    | 3, _ => exact h3.symm
  · rw [List.getElem?_eq_none (by simp [madeCells]; omega), List.getElem?_eq_none (by rw [flatD_len]; simp; omega)]
end Go.Proofs.YtoinlkdmfclnbaaGreatDoor
namespace Go.Proofs.YtoinlkdmfclnbaaGreatDoor
set_option linter.unusedVariables false
open Go.RowKit

theorem deed_info : (Tryz.prog.info? 55).map (fun i => (i.zero, i.size, i.bytes)) = some (some (.agg #[.int .i64 0, .int .i64 0, .int .i64 0, .string ⟨#[]⟩]), 4, 40) := by kernel_rfl
def SzE (ds : List Dd) (left : Int) (w : World) (e : Ending) (w' : World) : Prop :=
  ∃ r : Int, e = .returned (.int .i64 r) ∧ Below w.heap.size w w' ∧ -1 ≤ r ∧ r ≤ left ∧ (0 ≤ r → (ds.length : Int) ≤ left ∧ ∀ k, k < ds.length → ((dS ds k).size : Int) ≤ left)
/-! ### equal deeds -/
def eqD (d e : Dd) : Bool := decide (d = e)
def eqDs (ds es : List Dd) : Bool := decide (ds = es)
theorem eqD_self (d : Dd) : eqD d d = true := decide_eq_true rfl
theorem eqDs_self (ds : List Dd) : eqDs ds ds = true := decide_eq_true rfl
end Go.Proofs.YtoinlkdmfclnbaaGreatDoor
namespace Go.Proofs.YtoinlkdmfclnbaaGreatDoor
set_option linter.unusedVariables false
open Go.RowKit

/-! ### texts of marks -/
/-- the digits of a number, none of nought -/
def digS : Nat → ByteArray
  | 0 => ⟨#[]⟩
  | k + 1 => digS ((k + 1) / 10) ++ dig ((k + 1) % 10)
decreasing_by omega
def mkT (k : Nat) : ByteArray := ⟨#[109]⟩ ++ digS k
theorem digS_pos {k : Nat} (h : 0 < k) : digS k = digS (k / 10) ++ dig (k % 10) := by
  obtain ⟨j, rfl⟩ : ∃ j, k = j + 1 := ⟨k - 1, by omega⟩
  rw [digS]
theorem digS_size : ∀ (n k : Nat), k ≤ n → (digS k).size ≤ k
  | 0, k, h => by
    obtain rfl : k = 0 := by omega
    simp [digS]; rfl
  | n + 1, k, h => by
    rcases Nat.eq_zero_or_pos k with h0 | h0
    · subst h0; simp [digS]; rfl
    · rw [digS_pos h0, ByteArray.size_append]
      have := digS_size n (k / 10) (by omega)
      have e : (dig (k % 10)).size = 1 := rfl
      omega
set_option maxRecDepth 100000 in
set_option maxHeartbeats 1600000 in
theorem markText_c (k : Nat) (w : World) (h0 : 0 < k) (h1 : k ≤ 1000000000000) :
    Calls Tryz.prog 79 #[.int .i64 (k : Int)] w fun e w' => e = .returned (.string (mkT k)) ∧ Below w.heap.size w w' := by
  have hq : ¬ ((k : Int) ≤ 0) := by omega
  have HK := digS_size k k (Nat.le_refl _)
  have HT : Hid (mkT k = ⟨#[109]⟩ ++ digS k) := Lib.hid rfl
  generalize mkT k = T at *
  go_enter Tryz.func79, Tryz.ntmps79
  go_wp2_with fail
  go_loopw [0, 3] (fun t o wr => ∃ (j : Nat) (s : ByteArray), j ≤ k ∧ t = .int .i64 (j : Int) ∧ o = .string s ∧ digS j ++ s = digS k ∧ Below w.heap.size w wr) (fun t _ _ => (intOf t).toNat)
  case atStart => exact ⟨k, ⟨#[]⟩, Nat.le_refl _, rfl, rfl, ByteArray.append_empty, Below.refl _ _⟩
  case round =>
    obtain ⟨j, s, hj, rfl, rfl, he, hbw⟩ := hrel
    have hsz : (digS j).size + s.size = (digS k).size := by rw [← he, ByteArray.size_append]
    have HE := Lib.hid he
    clear he
    by_cases hlt : 0 < j
    · obtain ⟨d, hd⟩ : ∃ d : Nat, j % 10 = d := ⟨_, rfl⟩
      have hmod : (j : Int) % 10 = (d : Int) := by omega
      have hd9 : d ≤ 9 := by omega
      have HD : Hid (digS j = digS (j / 10) ++ dig d) := Lib.hid (by rw [digS_pos hlt, hd])
      have hwr : IntKind.u8.wrap (48 + (d : Int)) = 48 + (d : Int) := (by decide : ∀ d : Fin 10, IntKind.u8.wrap (48 + ((d : Nat) : Int)) = 48 + ((d : Nat) : Int)) ⟨d, by omega⟩
      have hb : Below wr.heap.size wr (wr.alloc (.cells #[.int .u8 (48 + (d : Int))] 5)) := (Below.refl _ _).alloc (Nat.le_refl _) _
      have kc : (convert 22 9 (.slice (some ⟨wr.heap.size, 0, none⟩) 1 1)).run Tryz.prog (wr.alloc (.cells #[.int .u8 (48 + (d : Int))] 5)) = .ok (.string (dig d)) (wr.alloc (.cells #[.int .u8 (48 + (d : Int))] 5)) :=
        Lib.run_convert_whole (P := Tryz.prog) _ 22 5 9 Tryz.underlying22 Tryz.underlying5 Tryz.underlying9 wr.heap.size 0 (dig d) (dig_bytes d _ _ hd9 ((World.cell?_alloc_at _ _ _ _ rfl).trans rfl)) 1
      have hna : ¬ (9223372036854775807 < (dig d).size + s.size) := by rw [show (dig d).size = 1 from rfl]; omega
      have hB3 := bt hbw hb
      clear hd hb
      go_wp2_with fail
      go_roundw
      case rel => exact ⟨j / 10, dig d ++ s, by omega, by rw [Int.natCast_ediv]; rfl, rfl, by rw [← HE.out, HD.out, ByteArray.append_assoc], hB3⟩
      case measure => simp [intOf]; omega
    · have hj0 : j = 0 := by omega
      have HS : Hid (s = digS k) := Lib.hid (by rw [← HE.out, hj0, digS]; exact ByteArray.empty_append.symm)
      have hna : ¬ (9223372036854775807 < (⟨#[109]⟩ : ByteArray).size + s.size) := by rw [show (⟨#[109]⟩ : ByteArray).size = 1 from rfl]; omega
      clear hj0
      go_wp2_with fail
      go_ret
      rw [HT.out, ← HS.out]
      exact ⟨rfl, hbw⟩
end Go.Proofs.YtoinlkdmfclnbaaGreatDoor
namespace Go.Proofs.YtoinlkdmfclnbaaGreatDoor
set_option linter.unusedVariables false
open Go.RowKit

def mE (k0 j : Nat) : Dd := (((k0 + 4 * j : Nat) : Int), ((k0 + 4 * j + 1 : Nat) : Int), ((k0 + 4 * j + 2 : Nat) : Int), mkT (k0 + 4 * j + 3))
def marksE (k0 n : Nat) : List Dd := (List.range n).map (mE k0)
theorem marksE_len (k0 n : Nat) : (marksE k0 n).length = n := by simp [marksE]
/-- the first j deeds marked -/
def mkE (ds : List Dd) (k0 j : Nat) : List Dd := marksE k0 j ++ ds.drop j
theorem mkE_len (ds : List Dd) (k0 j : Nat) (h : j ≤ ds.length) : (mkE ds k0 j).length = ds.length := by simp [mkE, marksE_len]; omega
theorem mkE_zero (ds : List Dd) (k0 : Nat) : mkE ds k0 0 = ds := by simp [mkE, marksE]
theorem mkE_all (ds : List Dd) (k0 n : Nat) (h : ds.length = n) : mkE ds k0 n = marksE k0 n := by simp [mkE, ← h]
theorem mkE_succ (ds : List Dd) (k0 j : Nat) (h : j < ds.length) : (mkE ds k0 j).set j (mE k0 j) = mkE ds k0 (j + 1) := by
  unfold mkE
  rw [List.set_append_right _ _ (by rw [marksE_len]; exact Nat.le_refl _), marksE_len, Nat.sub_self, List.drop_eq_getElem_cons h, List.set_cons_zero]
  simp [marksE, List.range_succ]
theorem dG_marksE {k0 n j : Nat} (h : j < n) : dG (marksE k0 n) j = mE k0 j := by
  rw [dG_get (by rw [marksE_len]; exact h)]; simp [marksE]
/-- Cells of a row of the call's own, whatever they hold. -/
def OwnX (w : World) (lo hi : Nat) (A : Option Addr) (n c : Nat) (vs : List Value) : Prop :=
  w.ownsRow lo 55 4 (.slice A n c) n vs ∧ ∀ k, (Value.slice A n c).ownBlock = some k → k < hi
section
variable {lo hi n c g : Nat} {w w' : World} {A : Option Addr} {vs : List Value} {ds : List Dd}
theorem OwnE.x (h : OwnE w lo hi A n c ds) : OwnX w lo hi A n c (flatD ds) := h.2
theorem OwnX.up (h : OwnX w lo hi A n c vs) (hb : Below w.heap.size w w') : OwnX w' lo hi A n c vs := ⟨ownsRow_keep h.1 h.2 (fun k _ _ h3 => hb.block k h3), h.2⟩
theorem OwnX.set_ (h : OwnX w lo hi (some ⟨g, 0, none⟩) n c vs) (j : Nat) (u : Value) : OwnX (w.setCell ⟨g, j, none⟩ u) lo hi (some ⟨g, 0, none⟩) n c (vs.set j u) ∧ Chg lo hi w (w.setCell ⟨g, j, none⟩ u) := by
  have h1 := h.1.lt g rfl
  have h2 := h.2 g rfl
  exact ⟨⟨(h.1.stored j u).1, h.2⟩, (Chg.refl lo hi w).setCell h1.1 h2 u⟩
end
end Go.Proofs.YtoinlkdmfclnbaaGreatDoor
namespace Go.Proofs.YtoinlkdmfclnbaaGreatDoor
set_option linter.unusedVariables false
open Go.RowKit

abbrev Sk := List Int × List (List Int) × Nat
/-- one deed more; one that cannot be done is left out -/
def stepX (t : Sk) (d : Dd) : Sk :=
  if (doX t.1 t.2.1 d.1 d.2.1 d.2.2.1 d.2.2.2).2.2 then ((doX t.1 t.2.1 d.1 d.2.1 d.2.2.1 d.2.2.2).1, (doX t.1 t.2.1 d.1 d.2.1 d.2.2.1 d.2.2.2).2.1, t.2.2 + 1) else t
def runL (xs : List Int) (yss : List (List Int)) (ds : List Dd) : Sk := ds.foldl stepX (xs, yss, 0)
def runB (xs : List Int) (yss : List (List Int)) (ds : List Dd) : Bool := deskOkB xs yss && decide (ds.length ≤ 40)
def runX (xs : List Int) (yss : List (List Int)) (ds : List Dd) : Sk := if runB xs yss ds then runL xs yss ds else ([], [], 0)
theorem runL_succ (xs : List Int) (yss : List (List Int)) (ds : List Dd) {k : Nat} (h : k < ds.length) : runL xs yss (ds.take (k + 1)) = stepX (runL xs yss (ds.take k)) (dG ds k) := by
  unfold runL
  rw [List.take_succ_eq_append_getElem h, List.foldl_append, dG_get h]; rfl
theorem stepX_ok {t : Sk} {d : Dd} (h : deskOkB t.1 t.2.1 = true) : deskOkB (stepX t d).1 (stepX t d).2.1 = true := by
  unfold stepX
  split
  · exact doX_desk _ _ _ _ h
  · exact h
theorem foldl_ok : ∀ (ds : List Dd) (t : Sk), deskOkB t.1 t.2.1 = true → deskOkB (ds.foldl stepX t).1 (ds.foldl stepX t).2.1 = true
  | [], _, h => h
  | d :: r, t, h => foldl_ok r _ (stepX_ok h)
theorem runL_ok {xs : List Int} {yss : List (List Int)} (ds : List Dd) (h : deskOkB xs yss = true) : deskOkB (runL xs yss ds).1 (runL xs yss ds).2.1 = true := foldl_ok ds _ h
theorem stepX_le (t : Sk) (d : Dd) : (stepX t d).2.2 ≤ t.2.2 + 1 := by
  unfold stepX; split
  · exact Nat.le_refl _
  · omega
theorem foldl_le : ∀ (ds : List Dd) (t : Sk), (ds.foldl stepX t).2.2 ≤ t.2.2 + ds.length
  | [], _ => Nat.le_refl _
  | d :: r, t => by
    have h1 := foldl_le r (stepX t d)
    have h2 := stepX_le t d
    show (r.foldl stepX (stepX t d)).2.2 ≤ t.2.2 + (r.length + 1)
    omega
theorem runL_le (xs : List Int) (yss : List (List Int)) (ds : List Dd) : (runL xs yss ds).2.2 ≤ ds.length := by
  have : (ds.foldl stepX (xs, yss, 0)).2.2 ≤ 0 + ds.length := foldl_le ds (xs, yss, 0)
  rw [Nat.zero_add] at this
  exact this
theorem stepX_yes {xs : List Int} {yss : List (List Int)} {m : Nat} {d : Dd} {r1 : List Int} {r2 : List (List Int)} (h : doX xs yss d.1 d.2.1 d.2.2.1 d.2.2.2 = (r1, r2, true)) : stepX (xs, yss, m) d = (r1, r2, m + 1) := by
  unfold stepX; simp only [h]; rfl
theorem stepX_no {xs : List Int} {yss : List (List Int)} {m : Nat} {d : Dd} {r1 : List Int} {r2 : List (List Int)} (h : doX xs yss d.1 d.2.1 d.2.2.1 d.2.2.2 = (r1, r2, false)) : stepX (xs, yss, m) d = (xs, yss, m) := by
  unfold stepX; simp only [h]; rfl
def RunO (w : World) (r1 : List Int) (r2 : List (List Int)) (m : Nat) (e : Ending) (w' : World) : Prop :=
  ∃ A n c P k d, e = .returned (.tuple #[.agg #[.slice A n c, .slice P k d], .int .i64 (m : Int)]) ∧ OwnD w' w.heap.size w'.heap.size A n c r1 P k d r2 ∧ Below w.heap.size w w'
/-- Short texts. -/
def Shrt (ds : List Dd) : Prop := ∀ k, k < ds.length → (dS ds k).size ≤ 1000000000000
/-- The desk of the run, in block g. -/
def RunSt (w wr : World) (g m : Nat) (t : Sk) : Prop :=
  ∃ A n c P k d lo hi, Two wr g (.slice A n c) (.slice P k d) ∧ OwnD wr lo hi A n c t.1 P k d t.2.1 ∧ (g < lo ∨ hi ≤ g) ∧ w.heap.size + 2 ≤ lo ∧ hi ≤ wr.heap.size ∧ t.2.2 = m
set_option maxRecDepth 100000 in
set_option maxHeartbeats 1600000 in
theorem deskRun_no (A P E : Option Addr) (n c m d N C : Nat) (xs : List Int) (yss : List (List Int)) (ds : List Dd) (w : World) (h : RdD w w.heap.size A n c xs P m d yss) (hE : RdE w w.heap.size E N C ds) (hno : deskOkB xs yss = false ∨ (deskOkB xs yss = true ∧ 40 < N)) :
    Calls Tryz.prog 36 #[.agg #[.slice A n c, .slice P m d], .slice E N C] w (RunO w [] [] 0) := by
  have hm := hE.max
  have hc := hE.cap
  unfold maxLen at hm
  have hW : Below w.heap.size w ((w.alloc (.cells #[.slice A n c, .slice P m d] 26)).alloc (.cells #[.slice none 0 0, .slice none 0 0] 26)) := ((Below.refl _ _).alloc (Nat.le_refl _) _).alloc (by simp) _
  have h1 := h.up hW
  have hr := Two.made (w.alloc (.cells #[.slice A n c, .slice P m d] 26)) 26 (.slice none 0 0) (.slice none 0 0)
  simp only [World.size_alloc] at hr
  have K1 := deskOk_c A P n c m d xs yss _ h1
  rcases hno with h0 | ⟨h0, h2⟩
  all_goals
    rw [h0] at K1
    (try have h2i : (40 : Int) < (N : Int) := by omega)
    go_enter Tryz.func36, Tryz.ntmps36
    go_wp2_with fail
    generalize ((w.alloc (.cells #[.slice A n c, .slice P m d] 26)).alloc (.cells #[.slice none 0 0, .slice none 0 0] 26)) = w1 at *
    refine K1.mono ?_
    rintro e w2 ⟨rfl, hb2⟩
    have hr2 := hr.up hb2
    obtain ⟨_, r0, r1, r2, r3⟩ := id hr2
    have hB := bt hW hb2
    have hz := hb2.size
    have hend : RunO w [] [] 0 (.returned (.tuple #[.agg #[.slice none 0 0, .slice none 0 0], .int .i64 0])) ((w2.setCell ⟨w.heap.size + 1, 0, none⟩ (.slice none 0 0)).setCell ⟨w.heap.size + 1, 1, none⟩ (.slice none 0 0)) :=
      ⟨none, 0, 0, none, 0, 0, rfl, OwnD.zero_ _ _ _ (by simp; have := hB.size; omega), (hB.setCell (by simp) _).setCell (by simp) _⟩
    have hT := (hr2.set0 (.slice none 0 0)).set1 (.slice none 0 0)
    have HE := Lib.hid hend
    have HT := Lib.hid hT
    clear hend hT hr2 K1 h1 hr h0
    go_wp2_with fail
    (try simp only [Exit.inBlock, Exit.then])
    refine bodyPost_ret (v := .tuple #[.agg #[.slice none 0 0, .slice none 0 0], .int .i64 0]) ?_ rfl HE.out
    exact Eq.trans (results_two_tmp (p := 4) (u := 5) rfl _ _ (w.heap.size + 1) _ _ _ rfl HT.out Tryz.underlying26 rfl desk_size) rfl
end Go.Proofs.YtoinlkdmfclnbaaGreatDoor
namespace Go.Proofs.YtoinlkdmfclnbaaGreatDoor
set_option linter.unusedVariables false
open Go.RowKit

theorem Two.chg' {w w' : World} {g lo hi : Nat} {x y : Value} (h : Two w g x y) (hc : Chg lo hi w w') (hd : g < lo ∨ hi ≤ g) : Two w' g x y := h.chg hc hd
set_option maxRecDepth 100000 in
set_option maxHeartbeats 3200000 in
theorem deskRun_yes (A P E : Option Addr) (n c m d N C : Nat) (xs : List Int) (yss : List (List Int)) (ds : List Dd) (w : World) (h : RdD w w.heap.size A n c xs P m d yss) (hE : RdE w w.heap.size E N C ds) (hok : deskOkB xs yss = true) (hN : N ≤ 40) (hsh : Shrt ds) :
    Calls Tryz.prog 36 #[.agg #[.slice A n c, .slice P m d], .slice E N C] w (RunO w (runL xs yss ds).1 (runL xs yss ds).2.1 (runL xs yss ds).2.2) := by
  have HL := Lib.hid hE.len
  have hmE := hE.max
  have hcE := hE.cap
  unfold maxLen at hmE
  have hW : Below w.heap.size w ((w.alloc (.cells #[.slice A n c, .slice P m d] 26)).alloc (.cells #[.slice none 0 0, .slice none 0 0] 26)) := ((Below.refl _ _).alloc (Nat.le_refl _) _).alloc (by simp) _
  have h1 := h.up hW
  have hr := Two.made (w.alloc (.cells #[.slice A n c, .slice P m d] 26)) 26 (.slice none 0 0) (.slice none 0 0)
  have ha := (Two.made w 26 (.slice A n c) (.slice P m d)).alloc (.cells #[.slice none 0 0, .slice none 0 0] 26)
  have hNi : ¬ ((40 : Int) < (N : Int)) := by omega
  simp only [World.size_alloc] at hr
  have K1 := deskOk_c A P n c m d xs yss _ h1
  rw [hok] at K1
  obtain ⟨hx0, hx7, hfit⟩ := desk_fit hok
  have hln := h.1.len
  have HOK := Lib.hid hok
  have HSH := Lib.hid hsh
  have HR : Hid (∀ k, k < ds.length → runL xs yss (ds.take (k + 1)) = stepX (runL xs yss (ds.take k)) (dG ds k)) := Lib.hid (fun k hk => runL_succ xs yss ds hk)
  have HST : Hid (∀ k, deskOkB (runL xs yss (ds.take k)).1 (runL xs yss (ds.take k)).2.1 = true) := Lib.hid (fun k => runL_ok _ hok)
  have HLE : Hid (∀ k, (runL xs yss (ds.take k)).2.2 ≤ k) := Lib.hid (fun k => Nat.le_trans (runL_le xs yss _) (List.length_take_le _ _))
  clear hok hsh
  go_enter Tryz.func36, Tryz.ntmps36
  go_wp2_with fail
  generalize ((w.alloc (.cells #[.slice A n c, .slice P m d] 26)).alloc (.cells #[.slice none 0 0, .slice none 0 0] 26)) = w1 at *
  refine K1.mono ?_
  rintro e w2 ⟨rfl, hb2⟩
  have h2 := h1.up hb2
  have hr2 := hr.up hb2
  have ha2 := ha.up hb2
  have hB2 := bt hW hb2
  obtain ⟨_, a0, a1, _, _⟩ := id ha2
  clear K1 h1 hr ha hW hb2
  go_wp2_with fail
  clear a0 a1
  refine (copied_c A P n c m d xs yss _ h2 (by omega) (by omega) hfit).mono ?_
  rintro e w3 ⟨A3, n3, c3, P3, m3, d3, rfl, hO3, hb3⟩
  have hr3 := hr2.up hb3
  have hB3 := bt hB2 hb3
  have hz2 := hr2.1
  have hz3 := hb3.size
  have hbA := below_new w3 (.cells #[.slice A3 n3 c3, .slice P3 m3 d3] 26)
  have hT4 := Two.made w3 26 (.slice A3 n3 c3) (.slice P3 m3 d3)
  have hr4 := hr3.up hbA
  have hB4 := bt hB3 hbA
  have hO4 := hO3.up hbA
  have hzA := hbA.size
  have hst0 : RunSt w (w3.alloc (.cells #[.slice A3 n3 c3, .slice P3 m3 d3] 26)) w3.heap.size 0 (runL xs yss (ds.take 0)) :=
    ⟨A3, n3, c3, P3, m3, d3, w2.heap.size, w3.heap.size, hT4, hO4, .inr (Nat.le_refl _), by omega, hzA, rfl⟩
  clear h2 hr2 ha2 hB2 hO3 hb3 hr3 hB3 hT4 hO4 hbA
  go_wp2_with fail
  generalize w3.alloc (.cells #[.slice A3 n3 c3, .slice P3 m3 d3] 26) = w4 at *
  have hG2 : w.heap.size + 2 ≤ w3.heap.size := by omega
  clear hz2 hz3 hzA
  generalize w3.heap.size = G at *
  go_loopw [7, 25] (fun t i wr => ∃ k q : Nat, k ≤ N ∧ i = .int .i64 k ∧ t = .int .i64 (q : Int) ∧ RunSt w wr G q (runL xs yss (ds.take k)) ∧ Two wr (w.heap.size + 1) (.slice none 0 0) (.slice none 0 0) ∧ Below w.heap.size w wr) (fun _ i _ => N - (intOf i).toNat)
  case atStart => exact ⟨0, 0, Nat.zero_le _, rfl, rfl, hst0, hr4, hB4⟩
  case round =>
    clear hst0 hr4 hB4
    obtain ⟨k, q, hk, rfl, rfl, hst, hrs, hbw⟩ := hrel
    obtain ⟨A5, n5, c5, P5, m5, d5, lo, hi, hT, hO, hd, hlo, hhi, hq⟩ := hst
    by_cases hlt : k < N
    · have hkl : k < ds.length := by rw [HL.out]; exact hlt
      have HRk := Lib.hid (HR.out k hkl)
      have hq40 : q ≤ 40 := by have := HLE.out k; omega
      have hsk := HSH.out k hkl
      generalize hrun : runL xs yss (ds.take k) = T at *
      clear hrun
      obtain ⟨x1, y1, z1⟩ := T
      (try simp only at hO hq)
      obtain rfl : z1 = q := hq
      obtain ⟨b, off, rfl, hb, e0, e1, e2, e3⟩ := (hE.up hbw).at_ hlt
      have hbE : b < wr.heap.size := hb
      obtain ⟨r1, r2, r3, hdo⟩ : ∃ r1 r2 r3, doX x1 y1 (dK ds k) (dA ds k) (dB ds k) (dS ds k) = (r1, r2, r3) := ⟨_, _, _, rfl⟩
      have HDO := Lib.hid hdo
      have hbA := below_new wr (.cells #[.int .i64 (dK ds k), .int .i64 (dA ds k), .int .i64 (dB ds k), .string (dS ds k)] 55)
      have K := deskDo_c A5 P5 n5 c5 m5 d5 x1 y1 (dK ds k) (dA ds k) (dB ds k) (dS ds k) _ (hO.rd.up hbA) hsk
      rw [hdo] at K
      clear hdo hsk
      obtain ⟨hgz, t0, t1, t2, t3⟩ := id hT
      have hOA := hO.up hbA
      have hTA := hT.up hbA
      have hrA := hrs.up hbA
      have hBA := bt hbw hbA
      have hzA := hbA.size
      obtain ⟨_, u0, u1, u2, u3⟩ := id hTA
      have hk0 : (0 : Int) ≤ (k : Int) := Int.natCast_nonneg _
      have hk1 : (k : Int) < (N : Int) := by omega
      clear hO hT hrs hbw hbA
      go_wp2_with fail
      clear t0 t1 t2 t3 u0 u1 u2 u3 e0 e1 e2 e3
      refine K.mono ?_
      clear K
      rintro e w5 ⟨A6, n6, c6, P6, m6, d6, rfl, hO6, hb6⟩
      have hT6 := hTA.up hb6
      have hr6 := hrA.up hb6
      have hB6 := bt hBA hb6
      have hO56 := hOA.up hb6
      have hz6 := hb6.size
      clear hTA hrA hBA hOA hb6
      have hbN := below_new w5 (.cells #[.slice A6 n6 c6, .slice P6 m6 d6] 26)
      have hT7 := hT6.up hbN
      have hr7 := hr6.up hbN
      have hB7 := bt hB6 hbN
      have hO7 := hO6.up hbN
      have hO57 := hO56.up hbN
      have hzN := hbN.size
      have hgz5 : G < w5.heap.size := by omega
      have hzz : wr.heap.size ≤ (wr.alloc (.cells #[.int .i64 (dK ds k), .int .i64 (dA ds k), .int .i64 (dB ds k), .string (dS ds k)] 55)).heap.size := hzA
      obtain ⟨_, x60, x61, x62, x63⟩ := id hT6
      have HT6 := Lib.hid hT6
      have HR6 := Lib.hid hr6
      have HB6 := Lib.hid hB6
      have HO6 := Lib.hid hO6
      clear hT6 hr6 hB6 hO6 hO56
      (try simp only at hO7)
      generalize hwN : (wr.alloc (.cells #[.int .i64 (dK ds k), .int .i64 (dA ds k), .int .i64 (dB ds k), .string (dS ds k)] 55)).heap.size = szN at *
      clear hwN
      obtain ⟨_, v0, v1, v2, v3⟩ := id hT7
      rcases r3 with _ | _
      · have HN : Hid (stepX (x1, y1, z1) (dG ds k) = (x1, y1, z1)) := Lib.hid (stepX_no (by exact HDO.out))
        go_wp2_with fail
        go_roundw
        case rel => exact ⟨k + 1, z1, by omega, by go_num, rfl, by rw [HRk.out, HN.out]; exact ⟨A5, n5, c5, P5, m5, d5, lo, hi, hT7, hO57, hd, hlo, by omega, rfl⟩, hr7, hB7⟩
        case measure => simp [intOf]; omega
      · have HN : Hid (stepX (x1, y1, z1) (dG ds k) = (r1, r2, z1 + 1)) := Lib.hid (stepX_yes (by exact HDO.out))
        have hch : Chg G (G + 1) w5 ((w5.setCell ⟨G, 0, none⟩ (.slice A6 n6 c6)).setCell ⟨G, 1, none⟩ (.slice P6 m6 d6)) :=
          ((Chg.refl _ _ _).setCell (p := ⟨G, 0, none⟩) (Nat.le_refl _) (Nat.lt_succ_self _) _).setCell (p := ⟨G, 1, none⟩) (Nat.le_refl _) (Nat.lt_succ_self _) _
        have hbM := below_new ((w5.setCell ⟨G, 0, none⟩ (.slice A6 n6 c6)).setCell ⟨G, 1, none⟩ (.slice P6 m6 d6)) (.cells #[.slice A6 n6 c6, .slice P6 m6 d6] 26)
        have HT8 := Lib.hid (((HT6.out.set0 (.slice A6 n6 c6)).set1 (.slice P6 m6 d6)).up hbM)
        have HR8 := Lib.hid ((HR6.out.chg hch (.inl (by omega))).up hbM)
        have HB8 := Lib.hid (bt (HB6.out.trans (hch.belowLo (B := w.heap.size) (by omega) (by omega))) hbM)
        have HO8 := Lib.hid ((HO6.out.chg hch (.inr (by omega))).up hbM)
        have hz9 := hbM.size
        clear hbM
        have hz8 := hch.size
        clear hch hT7 hr7 hB7 hO7 hO57
        go_wp2_with fail
        go_roundw
        case rel => exact ⟨k + 1, z1 + 1, by omega, by go_num, by go_num, by rw [HRk.out, HN.out]; exact ⟨A6, n6, c6, P6, m6, d6, _, _, HT8.out, HO8.out, .inl (by omega), by omega, by omega, rfl⟩, HR8.out, HB8.out⟩
        case measure => simp [intOf]; omega
    · have hkN : k = N := by omega
      have HQ : Hid (runL xs yss (ds.take k) = runL xs yss ds) := Lib.hid (by rw [List.take_of_length_le (by rw [HL.out]; omega)])
      rw [HQ.out] at hO hq
      have hzr := hrs.1
      have hch : Chg (w.heap.size + 1) (w.heap.size + 2) wr ((wr.setCell ⟨w.heap.size + 1, 0, none⟩ (.slice A5 n5 c5)).setCell ⟨w.heap.size + 1, 1, none⟩ (.slice P5 m5 d5)) :=
        ((Chg.refl _ _ wr).setCell (p := ⟨w.heap.size + 1, 0, none⟩) (by simp) (by simp) _).setCell (p := ⟨w.heap.size + 1, 1, none⟩) (by simp) (by simp) _
      have hend : RunO w (runL xs yss ds).1 (runL xs yss ds).2.1 (runL xs yss ds).2.2 (.returned (.tuple #[.agg #[.slice A5 n5 c5, .slice P5 m5 d5], .int .i64 (q : Int)])) ((wr.setCell ⟨w.heap.size + 1, 0, none⟩ (.slice A5 n5 c5)).setCell ⟨w.heap.size + 1, 1, none⟩ (.slice P5 m5 d5)) :=
        ⟨A5, n5, c5, P5, m5, d5, by rw [hq], (hO.chg hch (.inr (by omega))).wide (by omega) (by have := hch.size; omega), hbw.trans (hch.belowLo (B := w.heap.size) (by omega) (by omega))⟩
      have hTe := (hrs.set0 (.slice A5 n5 c5)).set1 (.slice P5 m5 d5)
      obtain ⟨_, t0, t1, _, _⟩ := id hT
      obtain ⟨_, s0, s1, s2, s3⟩ := id hrs
      have HE := Lib.hid hend
      have HT := Lib.hid hTe
      clear hend hTe hch hO hq hkN
      go_wp2_with fail
      (try simp only [Exit.inBlock, Exit.then])
      refine bodyPost_ret (v := .tuple #[.agg #[.slice A5 n5 c5, .slice P5 m5 d5], .int .i64 (q : Int)]) ?_ rfl HE.out
      exact Eq.trans (results_two_tmp (p := 4) (u := 5) rfl _ _ (w.heap.size + 1) _ _ _ rfl HT.out Tryz.underlying26 rfl desk_size) rfl
end Go.Proofs.YtoinlkdmfclnbaaGreatDoor
namespace Go.Proofs.YtoinlkdmfclnbaaGreatDoor
set_option linter.unusedVariables false
open Go.RowKit

/-- The outcome reads as a desk whose rows are new. -/
def CutF (wj wx : World) (s6 s7 : Value) (r1 : List Int) (r2 : List (List Int)) (r3 : Bool) : Prop :=
  ∃ g A n c P m d, s6 = .pointer (some ⟨g, 0, none⟩) ∧ s7 = .bool r3 ∧ Two wx g (.slice A n c) (.slice P m d) ∧ Below wj.heap.size wj wx ∧ RdD wx wx.heap.size A n c r1 P m d r2 ∧ ∀ q, (Value.slice P m d).ownBlock = some q → wj.heap.size ≤ q
section
variable {wj wx : World} {A P : Option Addr} {n c m d g lo hi : Nat} {r1 : List Int} {r2 : List (List Int)} {r3 : Bool}
theorem cutF_last (hb : Below wj.heap.size wj wx) (h : RdD wx wx.heap.size A n c r1 P m d r2) (hP : ∀ q, (Value.slice P m d).ownBlock = some q → wj.heap.size ≤ q) : CutF wj (wx.alloc (.cells #[.slice A n c, .slice P m d] 26)) (.pointer (some ⟨wx.heap.size, 0, none⟩)) (.bool r3) r1 r2 r3 :=
  ⟨_, _, _, _, _, _, _, rfl, rfl, Two.made wx _ _ _, bt hb (below_new _ _), h.up (below_new _ _), hP⟩
theorem cutF_early (hb : Below wj.heap.size wj wx) (h : RdD wx wx.heap.size A n c r1 P m d r2) (hf : ∀ k, k < r2.length → 0 < (gR r2 k).length) (hg : Two wx g (.slice none 0 0) (.slice none 0 0)) (hgl : wj.heap.size ≤ g) (hP : ∀ q, (Value.slice P m d).ownBlock = some q → wj.heap.size ≤ q) :
    CutF wj ((wx.setCell ⟨g, 0, none⟩ (.slice A n c)).setCell ⟨g, 1, none⟩ (.slice P m d)) (.pointer (some ⟨g, 0, none⟩)) (.bool r3) r1 r2 r3 := by
  have hg1 := hg.set0 (.slice A n c)
  have hz : ((wx.setCell ⟨g, 0, none⟩ (.slice A n c)).setCell ⟨g, 1, none⟩ (.slice P m d)).heap.size = wx.heap.size := by simp
  refine ⟨g, A, n, c, P, m, d, rfl, rfl, hg1.set1 _, (hb.setCell hgl _).setCell hgl _, ?_, hP⟩
  rw [hz]
  exact ⟨(h.1.set_ hg.2.1 _).set_ hg1.2.2.1 _, (h.2.set_ hf hg.2.1 _).set_ hf hg1.2.2.1 _⟩
end
theorem RdR.setB {w : World} {B n c : Nat} {A : Option Addr} {xss : List (List Int)} (h : RdR w B A n c xss) {p : Addr} {A' : Option Addr} {n' c' : Nat} (hp : w.cell? p = some (.slice A' n' c')) (hb : ∀ q, (Value.slice A n c).ownBlock = some q → q ≠ p.block) (v : Value) : RdR (w.setCell p v) B A n c xss :=
  ⟨h.1, h.2.1, h.2.2.1, fun hn => by
    obtain ⟨b, off, e, hbB, hc⟩ := h.2.2.2 hn
    subst e
    refine ⟨b, off, rfl, hbB, fun k hk => ?_⟩
    obtain ⟨A1, n1, c1, h1, h2⟩ := hc k hk
    refine ⟨A1, n1, c1, ?_, h2.set_ hp v⟩
    rw [World.cell?_setCell_other _ _ _ _ (by intro e'; exact hb b rfl (by rw [e']))]
    exact h1⟩
/-- the desk of the run, in block G, read -/
def RunSr (wr : World) (G m : Nat) (t : Sk) : Prop :=
  ∃ A n c P k d, Two wr G (.slice A n c) (.slice P k d) ∧ RdD wr wr.heap.size A n c t.1 P k d t.2.1 ∧ (∀ q, (Value.slice P k d).ownBlock = some q → q ≠ G) ∧ t.2.2 = m
def RunR (w : World) (r1 : List Int) (r2 : List (List Int)) (m : Nat) (e : Ending) (w' : World) : Prop :=
  ∃ A n c P k d, e = .returned (.tuple #[.agg #[.slice A n c, .slice P k d], .int .i64 (m : Int)]) ∧ RdD w' w'.heap.size A n c r1 P k d r2 ∧ Below w.heap.size w w'
end Go.Proofs.YtoinlkdmfclnbaaGreatDoor
