/- Words for rows of deeds: read, and of the call's own. · Walks over rows of deeds: szDeedS, toDeedS, eqDeed, eqDeedS. · Walks over rows of deeds: eqDeedS, markText, markDeedS, heldDeedS. · Walks over rows of deeds: markDeedS, heldDeedS. · Walks: DeskRun of the program; what deeds make of a desk, one after the other. · Walk: DeskRun of the program, where deeds are done. · Walk: DeskRun of the reference. -/
import Derived.Test.YtnpjelekpkgbpaaDoorW90
namespace Go.Proofs.YtnpjelekpkgbpaaDoor
set_option linter.unusedVariables false
open Go.RowKit

abbrev Dd := Int × Int × Int × ByteArray
def dZ : Dd := (0, 0, 0, ⟨#[]⟩)
def dG (ds : List Dd) (k : Nat) : Dd := ds.getD k dZ
def dK (ds : List Dd) (k : Nat) : Int := (dG ds k).1
def dA (ds : List Dd) (k : Nat) : Int := (dG ds k).2.1
def dB (ds : List Dd) (k : Nat) : Int := (dG ds k).2.2.1
def dS (ds : List Dd) (k : Nat) : ByteArray := (dG ds k).2.2.2
theorem dG_get {ds : List Dd} {k : Nat} (h : k < ds.length) : dG ds k = ds[k] := by simp [dG, List.getD, List.getElem?_eq_getElem h]
theorem dG_eq (ds : List Dd) (k : Nat) : dG ds k = (dK ds k, dA ds k, dB ds k, dS ds k) := rfl
theorem eq_of_dG {ds es : List Dd} (hl : ds.length = es.length) (h : ∀ k, k < ds.length → dG ds k = dG es k) : ds = es := by
  apply List.ext_getElem hl
  intro k h1 h2
  have := h k h1
  rwa [dG_get h1, dG_get h2] at this
/-- The slice value reads as the deeds ds, below block B. -/
def RdE (w : World) (B : Nat) (A : Option Addr) (n c : Nat) (ds : List Dd) : Prop :=
  ds.length = n ∧ n ≤ c ∧ c ≤ maxLen ∧ (0 < n → ∃ b off, A = some ⟨b, off, none⟩ ∧ b < B ∧ ∀ k, k < n →
    w.cell? ⟨b, off + k * 4, none⟩ = some (.int .i64 (dK ds k)) ∧ w.cell? ⟨b, off + k * 4 + 1, none⟩ = some (.int .i64 (dA ds k)) ∧ w.cell? ⟨b, off + k * 4 + 2, none⟩ = some (.int .i64 (dB ds k)) ∧ w.cell? ⟨b, off + k * 4 + 3, none⟩ = some (.string (dS ds k)))
section
variable {w w' : World} {B B' n c : Nat} {A : Option Addr} {ds : List Dd}
theorem RdE.len (h : RdE w B A n c ds) : ds.length = n := h.1
theorem RdE.cap (h : RdE w B A n c ds) : n ≤ c := h.2.1
theorem RdE.max (h : RdE w B A n c ds) : c ≤ maxLen := h.2.2.1
theorem RdE.at_ (h : RdE w B A n c ds) {k : Nat} (hk : k < n) : ∃ b off, A = some ⟨b, off, none⟩ ∧ b < B ∧
    w.cell? ⟨b, off + k * 4, none⟩ = some (.int .i64 (dK ds k)) ∧ w.cell? ⟨b, off + k * 4 + 1, none⟩ = some (.int .i64 (dA ds k)) ∧ w.cell? ⟨b, off + k * 4 + 2, none⟩ = some (.int .i64 (dB ds k)) ∧ w.cell? ⟨b, off + k * 4 + 3, none⟩ = some (.string (dS ds k)) := by
  obtain ⟨b, off, e, hb, hc⟩ := h.2.2.2 (by omega)
  exact ⟨b, off, e, hb, hc k hk⟩
theorem RdE.nil_ (w : World) (B : Nat) : RdE w B none 0 0 [] := ⟨rfl, Nat.le_refl _, Nat.zero_le _, fun h => absurd h (by omega)⟩
theorem RdE.keep (h : RdE w B A n c ds) (hk : ∀ p : Addr, p.block < B → w'.cell? p = w.cell? p) : RdE w' B A n c ds :=
  ⟨h.1, h.2.1, h.2.2.1, fun hn => by
    obtain ⟨b, off, e, hb, hc⟩ := h.2.2.2 hn
    refine ⟨b, off, e, hb, fun k hk' => ?_⟩
    obtain ⟨h1, h2, h3, h4⟩ := hc k hk'
    exact ⟨(hk _ hb).trans h1, (hk _ hb).trans h2, (hk _ hb).trans h3, (hk _ hb).trans h4⟩⟩
theorem RdE.more (h : RdE w B A n c ds) (hB : B ≤ B') : RdE w B' A n c ds :=
  ⟨h.1, h.2.1, h.2.2.1, fun hn => by
    obtain ⟨b, off, e, hb, hc⟩ := h.2.2.2 hn
    exact ⟨b, off, e, by omega, hc⟩⟩
theorem RdE.below (h : RdE w B A n c ds) (hb : Below B w w') : RdE w' B A n c ds := h.keep fun _ hp => hb.cell hp
theorem RdE.up (h : RdE w w.heap.size A n c ds) (hb : Below w.heap.size w w') : RdE w' w'.heap.size A n c ds := (h.below hb).more hb.size
theorem RdE.dn (h : RdE w w.heap.size A n c ds) (m : Nat) : RdE (w.drewN m) (w.drewN m).heap.size A n c ds := h.keep fun _ _ => rfl
end
/-- the deeds' values, one behind the other -/
def flatD (ds : List Dd) : List Value := ds.flatMap fun d => [.int .i64 d.1, .int .i64 d.2.1, .int .i64 d.2.2.1, .string d.2.2.2]
theorem flatD_cons (d : Dd) (ds : List Dd) : flatD (d :: ds) = .int .i64 d.1 :: .int .i64 d.2.1 :: .int .i64 d.2.2.1 :: .string d.2.2.2 :: flatD ds := rfl
theorem flatD_len (ds : List Dd) : (flatD ds).length = ds.length * 4 := by
  induction ds with
  | nil => rfl
  | cons d r ih => rw [flatD_cons]; simp only [List.length_cons, ih]; omega
theorem flatD_app (ds es : List Dd) : flatD (ds ++ es) = flatD ds ++ flatD es := by simp [flatD]
theorem flatD_at : ∀ (ds : List Dd) (k : Nat), k < ds.length → (flatD ds)[k * 4]? = some (.int .i64 (dK ds k)) ∧ (flatD ds)[k * 4 + 1]? = some (.int .i64 (dA ds k)) ∧ (flatD ds)[k * 4 + 2]? = some (.int .i64 (dB ds k)) ∧ (flatD ds)[k * 4 + 3]? = some (.string (dS ds k))
  | [], k, h => by simp at h
  | d :: r, 0, _ => by rw [flatD_cons]; exact ⟨rfl, rfl, rfl, rfl⟩
  | d :: r, k + 1, h => by
    have := flatD_at r k (by simpa using h)
    rw [flatD_cons, show (k + 1) * 4 = k * 4 + 4 by omega]
    exact this
theorem flatD_set : ∀ (ds : List Dd) (k : Nat) (d : Dd), k < ds.length → flatD (ds.set k d) = ((((flatD ds).set (k * 4) (.int .i64 d.1)).set (k * 4 + 1) (.int .i64 d.2.1)).set (k * 4 + 2) (.int .i64 d.2.2.1)).set (k * 4 + 3) (.string d.2.2.2)
  | [], k, d, h => by simp at h
  | e :: r, 0, d, _ => by rw [List.set_cons_zero, flatD_cons, flatD_cons]; rfl
  | e :: r, k + 1, d, h => by
    have := flatD_set r k d (by simpa using h)
    rw [List.set_cons_succ, flatD_cons, flatD_cons, this, show (k + 1) * 4 = k * 4 + 4 by omega]
    rfl
/-- A row of deeds of the call's own whose block lies from lo on, and below hi. -/
def OwnE (w : World) (lo hi : Nat) (A : Option Addr) (n c : Nat) (ds : List Dd) : Prop :=
  ds.length = n ∧ w.ownsRow lo 26 4 (.slice A n c) n (flatD ds) ∧ ∀ k, (Value.slice A n c).ownBlock = some k → k < hi
section
variable {lo hi lo' hi' B n c g : Nat} {w w' : World} {A : Option Addr} {ds : List Dd}
theorem OwnE.len (h : OwnE w lo hi A n c ds) : ds.length = n := h.1
theorem OwnE.nil_ (w : World) (lo hi : Nat) : OwnE w lo hi none 0 0 [] := ⟨rfl, World.ownsRow_nil _ _ _ _, fun k hk => by cases hk⟩
theorem OwnE.lt (h : OwnE w lo hi A n c ds) : ∀ k, (Value.slice A n c).ownBlock = some k → lo ≤ k ∧ k < hi ∧ k < w.heap.size := fun k hk => ⟨(h.2.1.lt k hk).1, h.2.2 k hk, (h.2.1.lt k hk).2⟩
theorem OwnE.wide (h : OwnE w lo hi A n c ds) (h1 : lo' ≤ lo) (h2 : hi ≤ hi') : OwnE w lo' hi' A n c ds :=
  ⟨h.1, ⟨h.2.1.1, h.2.1.2.elim .inl fun ⟨g, cap, cur, e', hg, r⟩ => .inr ⟨g, cap, cur, e', by omega, r⟩⟩, fun k hk => by have := h.2.2 k hk; omega⟩
theorem OwnE.keep (h : OwnE w lo hi A n c ds) (hk : ∀ k, lo ≤ k → k < hi → k < w.heap.size → w'.heap[k]? = w.heap[k]?) : OwnE w' lo hi A n c ds :=
  ⟨h.1, ownsRow_keep h.2.1 h.2.2 hk, h.2.2⟩
theorem OwnE.up (h : OwnE w lo hi A n c ds) (hb : Below w.heap.size w w') : OwnE w' lo hi A n c ds := h.keep fun k _ _ h3 => hb.block k h3
theorem OwnE.chg (h : OwnE w lo hi A n c ds) (hc : Chg lo' hi' w w') (hd : hi ≤ lo' ∨ hi' ≤ lo) : OwnE w' lo hi A n c ds := h.keep fun k _ _ h3 => hc.block k h3 (by omega)
theorem OwnE.dn (h : OwnE w lo hi A n c ds) (m : Nat) : OwnE (w.drewN m) lo hi A n c ds := h
theorem OwnE.some_ (h : OwnE w lo hi A n c ds) (hn : 0 < n) : ∃ g, A = some ⟨g, 0, none⟩ := by
  rcases h.2.1.2 with ⟨e, h0⟩ | ⟨g, cap, cur, e, _⟩
  · omega
  · cases e; exact ⟨g, rfl⟩
theorem OwnE.cell (h : OwnE w lo hi (some ⟨g, 0, none⟩) n c ds) {k : Nat} (hk : k < n) :
    w.cell? ⟨g, k * 4, none⟩ = some (.int .i64 (dK ds k)) ∧ w.cell? ⟨g, k * 4 + 1, none⟩ = some (.int .i64 (dA ds k)) ∧ w.cell? ⟨g, k * 4 + 2, none⟩ = some (.int .i64 (dB ds k)) ∧ w.cell? ⟨g, k * 4 + 3, none⟩ = some (.string (dS ds k)) := by
  obtain ⟨h1, h2, h3, h4⟩ := flatD_at ds k (by rw [h.1]; exact hk)
  exact ⟨(h.2.1.cellAt _ (by omega)).trans h1, (h.2.1.cellAt _ (by omega)).trans h2, (h.2.1.cellAt _ (by omega)).trans h3, (h.2.1.cellAt _ (by omega)).trans h4⟩
theorem OwnE.frozen (h : OwnE w lo hi (some ⟨g, 0, none⟩) n c ds) (j : Nat) : w.frozen? ⟨g, j, none⟩ = false := h.2.1.frozenAt j
theorem OwnE.rd (h : OwnE w lo hi A n c ds) : RdE w w.heap.size A n c ds := by
  rcases h.2.1.2 with ⟨e, rfl⟩ | ⟨g, cap, cur, e, hb, hg, hnc, hcm, hcs, ht⟩
  · cases e
    exact ⟨h.1, Nat.le_refl _, Nat.zero_le _, fun h => absurd h (by omega)⟩
  · cases e
    refine ⟨h.1, hnc, hcm, fun _ => ⟨g, 0, rfl, (Array.getElem?_eq_some_iff.1 hg).1, fun k hk => ?_⟩⟩
    have := h.cell hk
    simpa using this
/-- one deed stored, field by field -/
theorem OwnE.store (h : OwnE w lo hi (some ⟨g, 0, none⟩) n c ds) {k : Nat} (hk : k < n) (d : Dd) :
    OwnE ((((w.setCell ⟨g, k * 4, none⟩ (.int .i64 d.1)).setCell ⟨g, k * 4 + 1, none⟩ (.int .i64 d.2.1)).setCell ⟨g, k * 4 + 2, none⟩ (.int .i64 d.2.2.1)).setCell ⟨g, k * 4 + 3, none⟩ (.string d.2.2.2)) lo hi (some ⟨g, 0, none⟩) n c (ds.set k d) ∧
    Chg lo hi w ((((w.setCell ⟨g, k * 4, none⟩ (.int .i64 d.1)).setCell ⟨g, k * 4 + 1, none⟩ (.int .i64 d.2.1)).setCell ⟨g, k * 4 + 2, none⟩ (.int .i64 d.2.2.1)).setCell ⟨g, k * 4 + 3, none⟩ (.string d.2.2.2)) := by
  have h1 := h.lt g rfl
  have h2 := ((((h.2.1.stored (k * 4) (.int .i64 d.1)).1.stored (k * 4 + 1) (.int .i64 d.2.1)).1.stored (k * 4 + 2) (.int .i64 d.2.2.1)).1.stored (k * 4 + 3) (.string d.2.2.2)).1
  refine ⟨⟨by simpa using h.1, by rw [flatD_set _ _ _ (by rw [h.1]; exact hk)]; exact h2, h.2.2⟩, ((((Chg.refl lo hi w).setCell h1.1 h1.2.1 _).setCell h1.1 h1.2.1 _).setCell h1.1 h1.2.1 _).setCell h1.1 h1.2.1 _⟩
end
/-- the first k of the deeds, noughts behind them -/
def dT (ds : List Dd) (k : Nat) : List Dd := ds.take k ++ List.replicate (ds.length - k) dZ
theorem dT_len (ds : List Dd) (k : Nat) (h : k ≤ ds.length) : (dT ds k).length = ds.length := by simp [dT]; omega
theorem dT_zero (ds : List Dd) : dT ds 0 = List.replicate ds.length dZ := by simp [dT]
theorem dT_all (ds : List Dd) : dT ds ds.length = ds := by simp [dT]
theorem dT_succ (ds : List Dd) {k : Nat} (h : k < ds.length) : (dT ds k).set k (dG ds k) = dT ds (k + 1) := by
  unfold dT
  have hl : (ds.take k).length = k := by rw [List.length_take]; omega
  rw [List.set_append_right _ _ (by omega), hl, Nat.sub_self, show ds.length - k = (ds.length - (k + 1)) + 1 by omega, List.replicate_succ, List.set_cons_zero, List.take_succ_eq_append_getElem h, dG_get h, List.append_assoc]
  rfl
theorem dG_rep (n k : Nat) : dG (List.replicate n dZ) k = dZ := by
  unfold dG; simp only [List.getD, List.getElem?_replicate]; split <;> rfl
theorem flatD_rep (n : Nat) : (madeCells #[Value.int .i64 0, .int .i64 0, .int .i64 0, .string ⟨#[]⟩] (n * 4)).toList = flatD (List.replicate n dZ) := by
  apply List.ext_getElem?
  intro j
  by_cases hj : j < n * 4
  · obtain ⟨q, r, hr, rfl⟩ : ∃ q r, r < 4 ∧ j = q * 4 + r := ⟨j / 4, j % 4, by omega, by omega⟩
    obtain ⟨h0, h1, h2, h3⟩ := flatD_at (List.replicate n dZ) q (by simp; omega)
    unfold dK dA dB dS at *
    rw [dG_rep] at h0 h1 h2 h3
    have e : (q * 4 + r) % 4 = r := by omega
    have hl : (madeCells #[Value.int .i64 0, .int .i64 0, .int .i64 0, .string ⟨#[]⟩] (n * 4)).toList[q * 4 + r]? = (#[Value.int .i64 0, .int .i64 0, .int .i64 0, .string ⟨#[]⟩] : Array Value)[r]? := by
      have hr' : r < (#[Value.int .i64 0, .int .i64 0, .int .i64 0, .string ⟨#[]⟩] : Array Value).size := hr
      simp only [madeCells, Array.toList_map, List.getElem?_map, Array.toList_range]
      rw [List.getElem?_range hj]
      show some ((#[Value.int .i64 0, .int .i64 0, .int .i64 0, .string ⟨#[]⟩] : Array Value)[(q * 4 + r) % 4]!) = _
      rw [e, getElem!_pos _ r hr', getElem?_pos _ r hr']
    rw [hl]
    match r, hr with
    | 0, _ => exact h0.symm
    | 1, _ => exact h1.symm
    | 2, _ => exact h2.symm
    | 3, _ => exact h3.symm
  · rw [List.getElem?_eq_none (by simp [madeCells]; omega), List.getElem?_eq_none (by rw [flatD_len]; simp; omega)]
end Go.Proofs.YtnpjelekpkgbpaaDoor
namespace Go.Proofs.YtnpjelekpkgbpaaDoor
set_option linter.unusedVariables false
open Go.RowKit

theorem deed_info : (Tryd.prog.info? 26).map (fun i => (i.zero, i.size, i.bytes)) = some (some (.agg #[.int .i64 0, .int .i64 0, .int .i64 0, .string ⟨#[]⟩]), 4, 40) := by kernel_rfl
def SzE (ds : List Dd) (left : Int) (w : World) (e : Ending) (w' : World) : Prop :=
  ∃ r : Int, e = .returned (.int .i64 r) ∧ Below w.heap.size w w' ∧ -1 ≤ r ∧ r ≤ left ∧ (0 ≤ r → (ds.length : Int) ≤ left ∧ ∀ k, k < ds.length → ((dS ds k).size : Int) ≤ left)
set_option maxRecDepth 100000 in
set_option maxHeartbeats 800000 in
theorem szDeedS_c (A : Option Addr) (n c : Nat) (ds : List Dd) (left : Int) (w : World) (h : RdE w w.heap.size A n c ds) (hsz : ∀ k, k < n → (dS ds k).size ≤ maxLen) (h0 : 0 ≤ left) (h1 : left ≤ 1048576) :
    Calls Tryd.prog 14 #[.slice A n c, .int .i64 left] w (SzE ds left w) := by
  have HL := Lib.hid h.len
  have hm := h.max
  have hc := h.cap
  have HS := Lib.hid hsz
  clear hsz
  unfold maxLen at hm
  by_cases hn : (n : Int) ≤ left
  · go_enter Tryd.func14, Tryd.ntmps14
    go_wp2
    go_loopw [1, 5] (fun l i wr => ∃ (k : Nat) (r : Int), k ≤ n ∧ i = .int .i64 k ∧ l = .int .i64 r ∧ 0 ≤ r ∧ r ≤ left ∧ (∀ j, j < k → ((dS ds j).size : Int) ≤ left) ∧ Below w.heap.size w wr) (fun _ i _ => n - (intOf i).toNat)
    case atStart => exact ⟨0, _, Nat.zero_le _, rfl, rfl, by omega, by omega, fun j hj => absurd hj (Nat.not_lt_zero _), Below.refl _ _⟩
    case round =>
      obtain ⟨k, r, hk, rfl, rfl, hr0, hr1, hall, hbw⟩ := hrel
      have HA := Lib.hid hall
      clear hall
      by_cases hlt : k < n
      · obtain ⟨b, off, rfl, hb, c0, c1, c2, c3⟩ := (h.up hbw).at_ hlt
        have hs := HS.out k hlt
        go_wp2_with fail
        refine (szDeed_c _ _ _ _ r _ hs hr0 (by omega)).mono ?_
        rintro e w' ⟨r2, rfl, hb2, hr2, hr3, hr4⟩
        have HB := Lib.hid (bt hbw hb2)
        clear hb2
        by_cases hneg : r2 < 0
        · go_wp2_with fail
          go_ret
          exact ⟨_, rfl, HB.out, by omega, by omega, fun h => by omega⟩
        · go_wp2_with fail
          go_roundw
          case rel => exact ⟨k + 1, r2, by omega, by go_num, rfl, by omega, by omega, fun j hj => by
            rcases Nat.lt_or_ge j k with h' | h'
            · exact HA.out j h'
            · obtain rfl : j = k := by omega
              have := hr4 (by omega)
              omega, HB.out⟩
          case measure => simp [intOf]; omega
      · go_wp2
        go_ret
        exact ⟨_, rfl, hbw, by omega, by omega, fun _ => ⟨by rw [HL.out]; exact hn, fun j hj => HA.out j (by have := HL.out; omega)⟩⟩
  · go_enter Tryd.func14, Tryd.ntmps14
    go_wp2
    go_ret
    exact ⟨_, rfl, Below.refl _ _, by omega, by omega, fun h => by omega⟩
set_option maxRecDepth 100000 in
set_option maxHeartbeats 800000 in
theorem toDeedS_c (A : Option Addr) (n c : Nat) (ds : List Dd) (w : World) (h : RdE w w.heap.size A n c ds) (hn : n ≤ 1048576) :
    Calls Tryd.prog 16 #[.slice A n c] w fun e w' => e = .returned (.slice (some ⟨w.heap.size, 0, none⟩) n n) ∧ OwnE w' w.heap.size w'.heap.size (some ⟨w.heap.size, 0, none⟩) n n ds ∧ Below w.heap.size w w' := by
  have HL := Lib.hid h.len
  obtain ⟨i0, hi, hz0, hz1, hz2⟩ := info_parts deed_info
  have hm := h.max
  have hc := h.cap
  unfold maxLen at hm
  go_enter Tryd.func16, Tryd.ntmps16
  go_wp2_with (at_make; refine wpList_make_full _ rfl _ _ 32 rfl w.heap.size 26 i0 (.agg #[.int .i64 0, .int .i64 0, .int .i64 0, .string ⟨#[]⟩]) 4 Tryd.underlying32 hi hz0 hz1 _ _ _ _ n rfl rfl rfl rfl (by rw [hz2]; omega) (by unfold maxLen; omega) (Nat.le_refl _) ?_; intro w1 hown1 hg1)
  have hb1 : Below w.heap.size w w1 := (Below.refl _ _).grown hg1 (Nat.le_refl _) (fun k hk => by cases hk)
  have hE1 : OwnE w1 w.heap.size (w.heap.size + 1) (some ⟨w.heap.size, 0, none⟩) n n (dT ds 0) := by
    refine ⟨by rw [dT_len _ _ (Nat.zero_le _)]; exact HL.out, ?_, fun k hk => by cases hk; exact Nat.lt_succ_self _⟩
    rw [dT_zero, HL.out, ← flatD_rep]
    exact hown1
  clear hown1 hg1
  go_loopw [4] (fun i wr => ∃ k : Nat, k ≤ n ∧ i = .int .i64 k ∧ OwnE wr w.heap.size (w.heap.size + 1) (some ⟨w.heap.size, 0, none⟩) n n (dT ds k) ∧ Below w.heap.size w wr) (fun i _ => n - (intOf i).toNat)
  case atStart => exact ⟨0, Nat.zero_le _, rfl, hE1, hb1⟩
  case round =>
    obtain ⟨k, hk, rfl, hE, hbw⟩ := hrel
    clear hE1 hb1
    by_cases hlt : k < n
    · obtain ⟨b, off, rfl, hb, c0, c1, c2, c3⟩ := (h.up hbw).at_ hlt
      have HT := Lib.hid (dT_succ ds (k := k) (by rw [HL.out]; exact hlt))
      have hwz := (hE.lt w.heap.size rfl).2.2
      go_wp2_with fail
      refine (toDeed_c _ _ _ _ _).mono ?_
      rintro e w2 ⟨rfl, hb2⟩
      have hE2 := hE.up hb2
      obtain ⟨o0, o1, o2, o3⟩ := hE2.cell hlt
      have f0 := hE2.frozen (k * 4)
      have f1 := hE2.frozen (k * 4 + 1)
      have f2 := hE2.frozen (k * 4 + 2)
      have f3 := hE2.frozen (k * 4 + 3)
      have HST := Lib.hid (hE2.store hlt (dG ds k))
      have HB := Lib.hid (bt hbw hb2)
      have hz2' := hb2.size
      clear hE hE2 hbw hb2 c0 c1 c2 c3
      go_wp2_with fail
      go_roundw
      case rel => exact ⟨k + 1, by omega, by go_num, by have := HST.out.1; rw [HT.out] at this; exact this, HB.out.trans (HST.out.2.belowLo (Nat.le_refl _) (by omega))⟩
      case measure => simp [intOf]; omega
    · have hkn : k = n := by omega
      have HE : Hid (OwnE wr w.heap.size (w.heap.size + 1) (some ⟨w.heap.size, 0, none⟩) n n ds) := Lib.hid (by
        rw [hkn] at hE
        have e := dT_all ds
        rw [HL.out] at e
        rw [e] at hE; exact hE)
      clear hE hkn
      go_wp2_with fail
      go_ret
      exact ⟨rfl, HE.out.wide (Nat.le_refl _) (by have := (HE.out.lt w.heap.size rfl).2.2; omega), hbw⟩
/-! ### equal deeds -/
def eqD (d e : Dd) : Bool := decide (d = e)
def eqDs (ds es : List Dd) : Bool := decide (ds = es)
theorem eqD_self (d : Dd) : eqD d d = true := decide_eq_true rfl
theorem eqDs_self (ds : List Dd) : eqDs ds ds = true := decide_eq_true rfl
set_option maxRecDepth 100000 in
set_option maxHeartbeats 800000 in
theorem eqDeed_c (d e : Dd) (w : World) :
    Calls Tryd.prog 21 #[.agg #[.int .i64 d.1, .int .i64 d.2.1, .int .i64 d.2.2.1, .string d.2.2.2], .agg #[.int .i64 e.1, .int .i64 e.2.1, .int .i64 e.2.2.1, .string e.2.2.2]] w fun r w' => r = .returned (.bool (eqD d e)) ∧ Below w.heap.size w w' := by
  obtain ⟨k, a, b, s⟩ := d
  obtain ⟨k', a', b', s'⟩ := e
  have hb1 : Below w.heap.size w ((w.alloc (.cells #[.int .i64 k, .int .i64 a, .int .i64 b, .string s] 26)).alloc (.cells #[.int .i64 k', .int .i64 a', .int .i64 b', .string s'] 26)) := ((Below.refl _ _).alloc (Nat.le_refl _) _).alloc (by simp) _
  by_cases h1 : k = k'
  · by_cases h2 : a = a'
    · by_cases h3 : b = b'
      · by_cases h4 : s = s'
        · subst h1 h2 h3 h4
          have q1 : (k != k) = false := by simp
          have q2 : (a != a) = false := by simp
          have q3 : (b != b) = false := by simp
          have hE : eqD (k, a, b, s) (k, a, b, s) = true := eqD_self _
          go_enter Tryd.func21, Tryd.ntmps21
          go_wp2_with fail
          go_ret
          rw [hE]
          exact ⟨rfl, hb1⟩
        · subst h1 h2 h3
          have q1 : (k != k) = false := by simp
          have q2 : (a != a) = false := by simp
          have q3 : (b != b) = false := by simp
          have HE : Hid (eqD (k, a, b, s) (k, a, b, s') = false) := Lib.hid (decide_eq_false (fun e => h4 (by cases e; rfl)))
          have q4 : ¬ s.toList = s'.toList := fun e => h4 (by
            rw [ByteArray.toList_eq, ByteArray.toList_eq] at e
            cases s; cases s'
            simp only at e
            have := Array.toList_inj.1 e
            rw [this])
          have q5 : (s.toList == s'.toList) = false := by simpa using q4
          clear h4
          go_enter Tryd.func21, Tryd.ntmps21
          go_wp2_with fail
          go_ret
          rw [HE.out]
          exact ⟨rfl, hb1⟩
      · subst h1 h2
        have q1 : (k != k) = false := by simp
        have q2 : (a != a) = false := by simp
        have q3 : (b != b') = true := by simpa using h3
        have HE : Hid (eqD (k, a, b, s) (k, a, b', s') = false) := Lib.hid (decide_eq_false (fun e => h3 (by cases e; rfl)))
        clear h3
        go_enter Tryd.func21, Tryd.ntmps21
        go_wp2_with fail
        go_ret
        rw [HE.out]
        exact ⟨rfl, hb1⟩
    · subst h1
      have q1 : (k != k) = false := by simp
      have q2 : (a != a') = true := by simpa using h2
      have HE : Hid (eqD (k, a, b, s) (k, a', b', s') = false) := Lib.hid (decide_eq_false (fun e => h2 (by cases e; rfl)))
      clear h2
      go_enter Tryd.func21, Tryd.ntmps21
      go_wp2_with fail
      go_ret
      rw [HE.out]
      exact ⟨rfl, hb1⟩
  · have q1 : (k != k') = true := by simpa using h1
    have HE : Hid (eqD (k, a, b, s) (k', a', b', s') = false) := Lib.hid (decide_eq_false (fun e => h1 (by cases e; rfl)))
    clear h1
    go_enter Tryd.func21, Tryd.ntmps21
    go_wp2_with fail
    go_ret
    rw [HE.out]
    exact ⟨rfl, hb1⟩
end Go.Proofs.YtnpjelekpkgbpaaDoor
namespace Go.Proofs.YtnpjelekpkgbpaaDoor
set_option linter.unusedVariables false
open Go.RowKit

set_option maxRecDepth 100000 in
set_option maxHeartbeats 1600000 in
theorem eqDeedS_c (A A' : Option Addr) (n c n' c' : Nat) (ds es : List Dd) (w : World) (h : RdE w w.heap.size A n c ds) (h' : RdE w w.heap.size A' n' c' es) :
    Calls Tryd.prog 18 #[.slice A n c, .slice A' n' c'] w fun e w' => e = .returned (.bool (eqDs ds es)) ∧ Below w.heap.size w w' := by
  have HL := Lib.hid h.len
  have HL' := Lib.hid h'.len
  have hm := h.max
  have hc := h.cap
  have hm' := h'.max
  have hc' := h'.cap
  unfold maxLen at hm hm'
  by_cases hne : n = n'
  · subst hne
    go_enter Tryd.func18, Tryd.ntmps18
    go_wp2
    go_loopw [5] (fun i wr => ∃ k : Nat, k ≤ n ∧ i = .int .i64 k ∧ (∀ j, j < k → dG ds j = dG es j) ∧ Below w.heap.size w wr) (fun i _ => n - (intOf i).toNat)
    case atStart => exact ⟨0, Nat.zero_le _, rfl, fun j hj => absurd hj (Nat.not_lt_zero _), Below.refl _ _⟩
    case round =>
      obtain ⟨k, hk, rfl, hall, hbw⟩ := hrel
      have HA := Lib.hid hall
      clear hall
      by_cases hlt : k < n
      · obtain ⟨b, off, rfl, hb, c0, c1, c2, c3⟩ := ((h.up hbw).dn 1).at_ hlt
        obtain ⟨b', off', rfl, hb', d0, d1, d2, d3⟩ := ((h'.up hbw).dn 1).at_ hlt
        have hp0 : (0 : Int) ≤ (k : Int) := Int.natCast_nonneg _
        have hp1 : (k : Int) < (n : Int) := by omega
        have hbd : Below w.heap.size w wr.drew := bd hbw 1
        rcases he : eqD (dG ds k) (dG es k) with _ | _
        all_goals
          have HE := Lib.hid he
          clear he
          go_wp2
          go_region_held3 (fun w' => w'.cell? ⟨b, off + k * 4, none⟩ = some (.int .i64 (dK ds k)) ∧ w'.cell? ⟨b, off + k * 4 + 1, none⟩ = some (.int .i64 (dA ds k)) ∧ w'.cell? ⟨b, off + k * 4 + 2, none⟩ = some (.int .i64 (dB ds k)) ∧ w'.cell? ⟨b, off + k * 4 + 3, none⟩ = some (.string (dS ds k)) ∧ w'.cell? ⟨b', off' + k * 4, none⟩ = some (.int .i64 (dK es k)) ∧ w'.cell? ⟨b', off' + k * 4 + 1, none⟩ = some (.int .i64 (dA es k)) ∧ w'.cell? ⟨b', off' + k * 4 + 2, none⟩ = some (.int .i64 (dB es k)) ∧ w'.cell? ⟨b', off' + k * 4 + 3, none⟩ = some (.string (dS es k)))
            (first
              | exact ⟨c0, c1, c2, c3, d0, d1, d2, d3⟩
              | exact KE.out)
            (first
              | (go_at_call 21; refine (eqDeed_c (dG ds k) (dG es k) _).mono ?_; rintro e w3 ⟨rfl, hb3⟩; rw [HE.out]; have KE := Lib.hid (show (_ ∧ _ ∧ _ ∧ _ ∧ _ ∧ _ ∧ _ ∧ _) from ⟨(hb3.cell (p := ⟨b, off + k * 4, none⟩) hb).trans c0, (hb3.cell (p := ⟨b, off + k * 4 + 1, none⟩) hb).trans c1, (hb3.cell (p := ⟨b, off + k * 4 + 2, none⟩) hb).trans c2, (hb3.cell (p := ⟨b, off + k * 4 + 3, none⟩) hb).trans c3, (hb3.cell (p := ⟨b', off' + k * 4, none⟩) hb').trans d0, (hb3.cell (p := ⟨b', off' + k * 4 + 1, none⟩) hb').trans d1, (hb3.cell (p := ⟨b', off' + k * 4 + 2, none⟩) hb').trans d2, (hb3.cell (p := ⟨b', off' + k * 4 + 3, none⟩) hb').trans d3⟩)))
          have HB := Lib.hid (bt hbd hb3)
          clear hbd hbw hb3
          go_wp2_with fail
          first
            | (go_ret
               exact ⟨boolEnd (decide_eq_false (fun e => by
                 have h9 := of_decide_eq_false HE.out
                 exact h9 (by rw [e]))).symm, HB.out⟩)
            | (go_roundw
               case rel => exact ⟨k + 1, by omega, by go_num, fun j hj => by
                 rcases Nat.lt_or_ge j k with h' | h'
                 · exact HA.out j h'
                 · obtain rfl : j = k := by omega
                   exact of_decide_eq_true HE.out, HB.out⟩
               case measure => simp [intOf]; omega)
      · go_wp2
        go_ret
        exact ⟨boolEnd (decide_eq_true (eq_of_dG (by rw [HL.out, HL'.out]) (fun j hj => HA.out j (by have := HL.out; omega)))).symm, hbw⟩
  · have hq : ((n : Int) != (n' : Int)) = true := by simp; omega
    go_enter Tryd.func18, Tryd.ntmps18
    go_wp2
    go_ret
    exact ⟨boolEnd (decide_eq_false (fun e => hne (by rw [← HL.out, ← HL'.out, e]))).symm, Below.refl _ _⟩
/-! ### texts of marks -/
/-- the digits of a number, none of nought -/
def digS : Nat → ByteArray
  | 0 => ⟨#[]⟩
  | k + 1 => digS ((k + 1) / 10) ++ dig ((k + 1) % 10)
decreasing_by omega
def mkT (k : Nat) : ByteArray := ⟨#[109]⟩ ++ digS k
theorem digS_pos {k : Nat} (h : 0 < k) : digS k = digS (k / 10) ++ dig (k % 10) := by
  obtain ⟨j, rfl⟩ : ∃ j, k = j + 1 := ⟨k - 1, by omega⟩
  rw [digS]
theorem digS_size : ∀ (n k : Nat), k ≤ n → (digS k).size ≤ k
  | 0, k, h => by
    obtain rfl : k = 0 := by omega
    simp [digS]; rfl
  | n + 1, k, h => by
    rcases Nat.eq_zero_or_pos k with h0 | h0
    · subst h0; simp [digS]; rfl
    · rw [digS_pos h0, ByteArray.size_append]
      have := digS_size n (k / 10) (by omega)
      have e : (dig (k % 10)).size = 1 := rfl
      omega
set_option maxRecDepth 100000 in
set_option maxHeartbeats 1600000 in
theorem markText_c (k : Nat) (w : World) (h0 : 0 < k) (h1 : k ≤ 1000000000000) :
    Calls Tryd.prog 50 #[.int .i64 (k : Int)] w fun e w' => e = .returned (.string (mkT k)) ∧ Below w.heap.size w w' := by
  have hq : ¬ ((k : Int) ≤ 0) := by omega
  have HK := digS_size k k (Nat.le_refl _)
  have HT : Hid (mkT k = ⟨#[109]⟩ ++ digS k) := Lib.hid rfl
  generalize mkT k = T at *
  go_enter Tryd.func50, Tryd.ntmps50
  go_wp2_with fail
  go_loopw [0, 3] (fun t o wr => ∃ (j : Nat) (s : ByteArray), j ≤ k ∧ t = .int .i64 (j : Int) ∧ o = .string s ∧ digS j ++ s = digS k ∧ Below w.heap.size w wr) (fun t _ _ => (intOf t).toNat)
  case atStart => exact ⟨k, ⟨#[]⟩, Nat.le_refl _, rfl, rfl, ByteArray.append_empty, Below.refl _ _⟩
  case round =>
    obtain ⟨j, s, hj, rfl, rfl, he, hbw⟩ := hrel
    have hsz : (digS j).size + s.size = (digS k).size := by rw [← he, ByteArray.size_append]
    have HE := Lib.hid he
    clear he
    by_cases hlt : 0 < j
    · obtain ⟨d, hd⟩ : ∃ d : Nat, j % 10 = d := ⟨_, rfl⟩
      have hmod : (j : Int) % 10 = (d : Int) := by omega
      have hd9 : d ≤ 9 := by omega
      have HD : Hid (digS j = digS (j / 10) ++ dig d) := Lib.hid (by rw [digS_pos hlt, hd])
      have hwr : IntKind.u8.wrap (48 + (d : Int)) = 48 + (d : Int) := (by decide : ∀ d : Fin 10, IntKind.u8.wrap (48 + ((d : Nat) : Int)) = 48 + ((d : Nat) : Int)) ⟨d, by omega⟩
      have hb : Below wr.heap.size wr (wr.alloc (.cells #[.int .u8 (48 + (d : Int))] 5)) := (Below.refl _ _).alloc (Nat.le_refl _) _
      have kc : (convert 40 9 (.slice (some ⟨wr.heap.size, 0, none⟩) 1 1)).run Tryd.prog (wr.alloc (.cells #[.int .u8 (48 + (d : Int))] 5)) = .ok (.string (dig d)) (wr.alloc (.cells #[.int .u8 (48 + (d : Int))] 5)) :=
        Lib.run_convert_whole (P := Tryd.prog) _ 40 5 9 Tryd.underlying40 Tryd.underlying5 Tryd.underlying9 wr.heap.size 0 (dig d) (dig_bytes d _ _ hd9 ((World.cell?_alloc_at _ _ _ _ rfl).trans rfl)) 1
      have hna : ¬ (9223372036854775807 < (dig d).size + s.size) := by rw [show (dig d).size = 1 from rfl]; omega
      have hB3 := bt hbw hb
      clear hd hb
      go_wp2_with fail
      go_roundw
      case rel => exact ⟨j / 10, dig d ++ s, by omega, by rw [Int.natCast_ediv]; rfl, rfl, by rw [← HE.out, HD.out, ByteArray.append_assoc], hB3⟩
      case measure => simp [intOf]; omega
    · have hj0 : j = 0 := by omega
      have HS : Hid (s = digS k) := Lib.hid (by rw [← HE.out, hj0, digS]; exact ByteArray.empty_append.symm)
      have hna : ¬ (9223372036854775807 < (⟨#[109]⟩ : ByteArray).size + s.size) := by rw [show (⟨#[109]⟩ : ByteArray).size = 1 from rfl]; omega
      clear hj0
      go_wp2_with fail
      go_ret
      rw [HT.out, ← HS.out]
      exact ⟨rfl, hbw⟩
end Go.Proofs.YtnpjelekpkgbpaaDoor
namespace Go.Proofs.YtnpjelekpkgbpaaDoor
set_option linter.unusedVariables false
open Go.RowKit

def mE (k0 j : Nat) : Dd := (((k0 + 4 * j : Nat) : Int), ((k0 + 4 * j + 1 : Nat) : Int), ((k0 + 4 * j + 2 : Nat) : Int), mkT (k0 + 4 * j + 3))
def marksE (k0 n : Nat) : List Dd := (List.range n).map (mE k0)
theorem marksE_len (k0 n : Nat) : (marksE k0 n).length = n := by simp [marksE]
/-- the first j deeds marked -/
def mkE (ds : List Dd) (k0 j : Nat) : List Dd := marksE k0 j ++ ds.drop j
theorem mkE_len (ds : List Dd) (k0 j : Nat) (h : j ≤ ds.length) : (mkE ds k0 j).length = ds.length := by simp [mkE, marksE_len]; omega
theorem mkE_zero (ds : List Dd) (k0 : Nat) : mkE ds k0 0 = ds := by simp [mkE, marksE]
theorem mkE_all (ds : List Dd) (k0 n : Nat) (h : ds.length = n) : mkE ds k0 n = marksE k0 n := by simp [mkE, ← h]
theorem mkE_succ (ds : List Dd) (k0 j : Nat) (h : j < ds.length) : (mkE ds k0 j).set j (mE k0 j) = mkE ds k0 (j + 1) := by
  unfold mkE
  rw [List.set_append_right _ _ (by rw [marksE_len]; exact Nat.le_refl _), marksE_len, Nat.sub_self, List.drop_eq_getElem_cons h, List.set_cons_zero]
  simp [marksE, List.range_succ]
theorem dG_marksE {k0 n j : Nat} (h : j < n) : dG (marksE k0 n) j = mE k0 j := by
  rw [dG_get (by rw [marksE_len]; exact h)]; simp [marksE]
/-- Cells of a row of the call's own, whatever they hold. -/
def OwnX (w : World) (lo hi : Nat) (A : Option Addr) (n c : Nat) (vs : List Value) : Prop :=
  w.ownsRow lo 26 4 (.slice A n c) n vs ∧ ∀ k, (Value.slice A n c).ownBlock = some k → k < hi
section
variable {lo hi n c g : Nat} {w w' : World} {A : Option Addr} {vs : List Value} {ds : List Dd}
theorem OwnE.x (h : OwnE w lo hi A n c ds) : OwnX w lo hi A n c (flatD ds) := h.2
theorem OwnX.up (h : OwnX w lo hi A n c vs) (hb : Below w.heap.size w w') : OwnX w' lo hi A n c vs := ⟨ownsRow_keep h.1 h.2 (fun k _ _ h3 => hb.block k h3), h.2⟩
theorem OwnX.set_ (h : OwnX w lo hi (some ⟨g, 0, none⟩) n c vs) (j : Nat) (u : Value) : OwnX (w.setCell ⟨g, j, none⟩ u) lo hi (some ⟨g, 0, none⟩) n c (vs.set j u) ∧ Chg lo hi w (w.setCell ⟨g, j, none⟩ u) := by
  have h1 := h.1.lt g rfl
  have h2 := h.2 g rfl
  exact ⟨⟨(h.1.stored j u).1, h.2⟩, (Chg.refl lo hi w).setCell h1.1 h2 u⟩
end
set_option maxRecDepth 100000 in
set_option maxHeartbeats 1600000 in
theorem markDeedS_c (A : Option Addr) (n c k0 lo hi : Nat) (ds : List Dd) (w : World) (h : OwnE w lo hi A n c ds) (hk : 0 < k0) (hk0 : k0 + 4 * n ≤ 1000000000000) :
    Calls Tryd.prog 26 #[.slice A n c, .int .i64 (k0 : Int)] w fun e w' => e = .returned (.int .i64 ((k0 + 4 * n : Nat) : Int)) ∧ OwnE w' lo hi A n c (marksE k0 n) ∧ Chg lo hi w w' := by
  have HL := Lib.hid h.len
  have hm := h.rd.max
  have hcp := h.rd.cap
  unfold maxLen at hm
  go_enter Tryd.func26, Tryd.ntmps26
  go_wp2_with fail
  go_loopw [1, 5] (fun t i wr => ∃ j q : Nat, j ≤ n ∧ i = .int .i64 j ∧ t = .int .i64 (q : Int) ∧ q = k0 + 4 * j ∧ OwnE wr lo hi A n c (mkE ds k0 j) ∧ Chg lo hi w wr) (fun _ i _ => n - (intOf i).toNat)
  case atStart => exact ⟨0, k0, Nat.zero_le _, rfl, rfl, rfl, by rw [mkE_zero]; exact h, Chg.refl _ _ _⟩
  case round =>
    obtain ⟨j, q, hj, rfl, rfl, hq, hE, hc⟩ := hrel
    have HQ := Lib.hid hq
    have hq9 : q + 4 ≤ 1000000000000 ∨ n ≤ j := by omega
    clear hq
    by_cases hlt : j < n
    · have hq1 : q + 4 ≤ 1000000000000 := by omega
      clear hq9
      obtain ⟨g, rfl⟩ := hE.some_ (by omega)
      obtain ⟨o0, o1, o2, o3⟩ := hE.cell hlt
      have f0 := hE.frozen (j * 4)
      have f1 := hE.frozen (j * 4 + 1)
      have f2 := hE.frozen (j * 4 + 2)
      have f3 := hE.frozen (j * 4 + 3)
      have hlg := hE.lt g rfl
      have KM := markText_c (q + 3) (((wr.setCell ⟨g, j * 4, none⟩ (.int .i64 (q : Int))).setCell ⟨g, j * 4 + 1, none⟩ (.int .i64 ((q : Int) + 1))).setCell ⟨g, j * 4 + 2, none⟩ (.int .i64 ((q : Int) + 1 + 1))) (by omega) (by omega)
      rw [show ((q + 3 : Nat) : Int) = (q : Int) + 1 + 1 + 1 by omega] at KM
      obtain ⟨x1, y1⟩ := hE.x.set_ (j * 4) (.int .i64 (q : Int))
      obtain ⟨x2, y2⟩ := x1.set_ (j * 4 + 1) (.int .i64 ((q : Int) + 1))
      obtain ⟨x3, y3⟩ := x2.set_ (j * 4 + 2) (.int .i64 ((q : Int) + 1 + 1))
      have hc3 := ((hc.trans y1).trans y2).trans y3
      have f3' := x3.1.frozenAt (j * 4 + 3)
      have o3' : (((wr.setCell ⟨g, j * 4, none⟩ (.int .i64 (q : Int))).setCell ⟨g, j * 4 + 1, none⟩ (.int .i64 ((q : Int) + 1))).setCell ⟨g, j * 4 + 2, none⟩ (.int .i64 ((q : Int) + 1 + 1))).cell? ⟨g, j * 4 + 3, none⟩ = some (.string (dS (mkE ds k0 j) j)) := by
        rw [World.cell?_setCell_other _ _ _ _ (by simp), World.cell?_setCell_other _ _ _ _ (by simp), World.cell?_setCell_other _ _ _ _ (by simp)]; exact o3
      have HD : Hid (flatD (mkE ds k0 (j + 1)) = ((((flatD (mkE ds k0 j)).set (j * 4) (.int .i64 (q : Int))).set (j * 4 + 1) (.int .i64 ((q : Int) + 1))).set (j * 4 + 2) (.int .i64 ((q : Int) + 1 + 1))).set (j * 4 + 3) (.string (mkT (q + 3)))) := Lib.hid (by
        have hl := HL.out
        have e1 : ((k0 + 4 * j : Nat) : Int) = (q : Int) := by rw [HQ.out]
        have e2 : ((k0 + 4 * j + 1 : Nat) : Int) = (q : Int) + 1 := by rw [HQ.out]; rfl
        have e3 : ((k0 + 4 * j + 2 : Nat) : Int) = (q : Int) + 1 + 1 := by rw [HQ.out]; rfl
        have e4 : mkT (k0 + 4 * j + 3) = mkT (q + 3) := by rw [HQ.out]
        rw [← mkE_succ ds k0 j (by omega), flatD_set _ _ _ (by rw [mkE_len _ _ _ (by omega)]; omega)]
        unfold mE
        rw [e1, e2, e3, e4])
      have hgz : g < (((wr.setCell ⟨g, j * 4, none⟩ (.int .i64 (q : Int))).setCell ⟨g, j * 4 + 1, none⟩ (.int .i64 ((q : Int) + 1))).setCell ⟨g, j * 4 + 2, none⟩ (.int .i64 ((q : Int) + 1 + 1))).heap.size := by simp; exact hlg.2.2
      have HX := Lib.hid x3
      have HC := Lib.hid hc3
      clear x1 x2 x3 y1 y2 y3 hE hc hc3
      go_wp2_with fail
      clear o0 o1 o2 o3 f0 f1 f2 f3
      refine KM.mono ?_
      clear KM
      generalize (((wr.setCell ⟨g, j * 4, none⟩ (.int .i64 (q : Int))).setCell ⟨g, j * 4 + 1, none⟩ (.int .i64 ((q : Int) + 1))).setCell ⟨g, j * 4 + 2, none⟩ (.int .i64 ((q : Int) + 1 + 1))) = w3 at *
      rintro e w4 ⟨rfl, hb4⟩
      have o4 := (hb4.cell (p := ⟨g, j * 4 + 3, none⟩) hgz).trans o3'
      have f4 := (hb4.frozen (p := ⟨g, j * 4 + 3, none⟩) hgz).trans f3'
      obtain ⟨x5, y5⟩ := (HX.out.up hb4).set_ (j * 4 + 3) (.string (mkT (q + 3)))
      have HX5 := Lib.hid x5
      have HC5 := Lib.hid ((HC.out.up_ hb4).trans y5)
      clear x5 y5 o3' f3' hb4
      go_wp2_with fail
      go_roundw
      case rel => exact ⟨j + 1, q + 4, by omega, by go_num, by go_num, by have := HQ.out; omega, ⟨by rw [mkE_len _ _ _ (by rw [HL.out]; omega)]; exact HL.out, by rw [HD.out]; exact HX5.out.1, HX5.out.2⟩, HC5.out⟩
      case measure => simp [intOf]; omega
    · have hjn : j = n := by omega
      have HE : Hid (OwnE wr lo hi A n c (marksE k0 n)) := Lib.hid (by
        rw [hjn, mkE_all ds k0 n HL.out] at hE; exact hE)
      have HN : Hid (q = k0 + 4 * n) := Lib.hid (by rw [HQ.out, hjn])
      clear hjn hE hq9
      go_wp2_with fail
      go_ret
      exact ⟨intEnd (by rw [HN.out]), HE.out, hc⟩
end Go.Proofs.YtnpjelekpkgbpaaDoor
namespace Go.Proofs.YtnpjelekpkgbpaaDoor
set_option linter.unusedVariables false
open Go.RowKit

abbrev Sk := List Int × List (List Int) × Nat
/-- one deed more; one that cannot be done is left out -/
def stepX (t : Sk) (d : Dd) : Sk :=
  if (doX t.1 t.2.1 d.1 d.2.1 d.2.2.1 d.2.2.2).2.2 then ((doX t.1 t.2.1 d.1 d.2.1 d.2.2.1 d.2.2.2).1, (doX t.1 t.2.1 d.1 d.2.1 d.2.2.1 d.2.2.2).2.1, t.2.2 + 1) else t
def runL (xs : List Int) (yss : List (List Int)) (ds : List Dd) : Sk := ds.foldl stepX (xs, yss, 0)
def runB (xs : List Int) (yss : List (List Int)) (ds : List Dd) : Bool := deskOkB xs yss && decide (ds.length ≤ 40)
def runX (xs : List Int) (yss : List (List Int)) (ds : List Dd) : Sk := if runB xs yss ds then runL xs yss ds else ([], [], 0)
theorem runL_succ (xs : List Int) (yss : List (List Int)) (ds : List Dd) {k : Nat} (h : k < ds.length) : runL xs yss (ds.take (k + 1)) = stepX (runL xs yss (ds.take k)) (dG ds k) := by
  unfold runL
  rw [List.take_succ_eq_append_getElem h, List.foldl_append, dG_get h]; rfl
theorem stepX_ok {t : Sk} {d : Dd} (h : deskOkB t.1 t.2.1 = true) : deskOkB (stepX t d).1 (stepX t d).2.1 = true := by
  unfold stepX
  split
  · exact doX_desk _ _ _ _ h
  · exact h
theorem foldl_ok : ∀ (ds : List Dd) (t : Sk), deskOkB t.1 t.2.1 = true → deskOkB (ds.foldl stepX t).1 (ds.foldl stepX t).2.1 = true
  | [], _, h => h
  | d :: r, t, h => foldl_ok r _ (stepX_ok h)
theorem runL_ok {xs : List Int} {yss : List (List Int)} (ds : List Dd) (h : deskOkB xs yss = true) : deskOkB (runL xs yss ds).1 (runL xs yss ds).2.1 = true := foldl_ok ds _ h
theorem stepX_le (t : Sk) (d : Dd) : (stepX t d).2.2 ≤ t.2.2 + 1 := by
  unfold stepX; split
  · exact Nat.le_refl _
  · omega
theorem foldl_le : ∀ (ds : List Dd) (t : Sk), (ds.foldl stepX t).2.2 ≤ t.2.2 + ds.length
  | [], _ => Nat.le_refl _
  | d :: r, t => by
    have h1 := foldl_le r (stepX t d)
    have h2 := stepX_le t d
    show (r.foldl stepX (stepX t d)).2.2 ≤ t.2.2 + (r.length + 1)
    omega
theorem runL_le (xs : List Int) (yss : List (List Int)) (ds : List Dd) : (runL xs yss ds).2.2 ≤ ds.length := by
  have : (ds.foldl stepX (xs, yss, 0)).2.2 ≤ 0 + ds.length := foldl_le ds (xs, yss, 0)
  rw [Nat.zero_add] at this
  exact this
theorem stepX_yes {xs : List Int} {yss : List (List Int)} {m : Nat} {d : Dd} {r1 : List Int} {r2 : List (List Int)} (h : doX xs yss d.1 d.2.1 d.2.2.1 d.2.2.2 = (r1, r2, true)) : stepX (xs, yss, m) d = (r1, r2, m + 1) := by
  unfold stepX; simp only [h]; rfl
theorem stepX_no {xs : List Int} {yss : List (List Int)} {m : Nat} {d : Dd} {r1 : List Int} {r2 : List (List Int)} (h : doX xs yss d.1 d.2.1 d.2.2.1 d.2.2.2 = (r1, r2, false)) : stepX (xs, yss, m) d = (xs, yss, m) := by
  unfold stepX; simp only [h]; rfl
def RunO (w : World) (r1 : List Int) (r2 : List (List Int)) (m : Nat) (e : Ending) (w' : World) : Prop :=
  ∃ A n c P k d, e = .returned (.tuple #[.agg #[.slice A n c, .slice P k d], .int .i64 (m : Int)]) ∧ OwnD w' w.heap.size w'.heap.size A n c r1 P k d r2 ∧ Below w.heap.size w w'
/-- Short texts. -/
def Shrt (ds : List Dd) : Prop := ∀ k, k < ds.length → (dS ds k).size ≤ 1000000000000
/-- The desk of the run, in block g. -/
def RunSt (w wr : World) (g m : Nat) (t : Sk) : Prop :=
  ∃ A n c P k d lo hi, Two wr g (.slice A n c) (.slice P k d) ∧ OwnD wr lo hi A n c t.1 P k d t.2.1 ∧ (g < lo ∨ hi ≤ g) ∧ w.heap.size + 2 ≤ lo ∧ hi ≤ wr.heap.size ∧ t.2.2 = m
end Go.Proofs.YtnpjelekpkgbpaaDoor
namespace Go.Proofs.YtnpjelekpkgbpaaDoor
set_option linter.unusedVariables false
open Go.RowKit

theorem Two.chg' {w w' : World} {g lo hi : Nat} {x y : Value} (h : Two w g x y) (hc : Chg lo hi w w') (hd : g < lo ∨ hi ≤ g) : Two w' g x y := h.chg hc hd
end Go.Proofs.YtnpjelekpkgbpaaDoor
namespace Go.Proofs.YtnpjelekpkgbpaaDoor
set_option linter.unusedVariables false
open Go.RowKit

/-- The outcome reads as a desk whose rows are new. -/
def CutF (wj wx : World) (s6 s7 : Value) (r1 : List Int) (r2 : List (List Int)) (r3 : Bool) : Prop :=
  ∃ g A n c P m d, s6 = .pointer (some ⟨g, 0, none⟩) ∧ s7 = .bool r3 ∧ Two wx g (.slice A n c) (.slice P m d) ∧ Below wj.heap.size wj wx ∧ RdD wx wx.heap.size A n c r1 P m d r2 ∧ ∀ q, (Value.slice P m d).ownBlock = some q → wj.heap.size ≤ q
section
variable {wj wx : World} {A P : Option Addr} {n c m d g lo hi : Nat} {r1 : List Int} {r2 : List (List Int)} {r3 : Bool}
theorem cutF_early (hb : Below wj.heap.size wj wx) (h : RdD wx wx.heap.size A n c r1 P m d r2) (hf : ∀ k, k < r2.length → 0 < (gR r2 k).length) (hg : Two wx g (.slice none 0 0) (.slice none 0 0)) (hgl : wj.heap.size ≤ g) (hP : ∀ q, (Value.slice P m d).ownBlock = some q → wj.heap.size ≤ q) :
    CutF wj ((wx.setCell ⟨g, 0, none⟩ (.slice A n c)).setCell ⟨g, 1, none⟩ (.slice P m d)) (.pointer (some ⟨g, 0, none⟩)) (.bool r3) r1 r2 r3 := by
  have hg1 := hg.set0 (.slice A n c)
  have hz : ((wx.setCell ⟨g, 0, none⟩ (.slice A n c)).setCell ⟨g, 1, none⟩ (.slice P m d)).heap.size = wx.heap.size := by simp
  refine ⟨g, A, n, c, P, m, d, rfl, rfl, hg1.set1 _, (hb.setCell hgl _).setCell hgl _, ?_, hP⟩
  rw [hz]
  exact ⟨(h.1.set_ hg.2.1 _).set_ hg1.2.2.1 _, (h.2.set_ hf hg.2.1 _).set_ hf hg1.2.2.1 _⟩
end
theorem RdR.setB {w : World} {B n c : Nat} {A : Option Addr} {xss : List (List Int)} (h : RdR w B A n c xss) {p : Addr} {A' : Option Addr} {n' c' : Nat} (hp : w.cell? p = some (.slice A' n' c')) (hb : ∀ q, (Value.slice A n c).ownBlock = some q → q ≠ p.block) (v : Value) : RdR (w.setCell p v) B A n c xss :=
  ⟨h.1, h.2.1, h.2.2.1, fun hn => by
    obtain ⟨b, off, e, hbB, hc⟩ := h.2.2.2 hn
    subst e
    refine ⟨b, off, rfl, hbB, fun k hk => ?_⟩
    obtain ⟨A1, n1, c1, h1, h2⟩ := hc k hk
    refine ⟨A1, n1, c1, ?_, h2.set_ hp v⟩
    rw [World.cell?_setCell_other _ _ _ _ (by intro e'; exact hb b rfl (by rw [e']))]
    exact h1⟩
/-- the desk of the run, in block G, read -/
def RunSr (wr : World) (G m : Nat) (t : Sk) : Prop :=
  ∃ A n c P k d, Two wr G (.slice A n c) (.slice P k d) ∧ RdD wr wr.heap.size A n c t.1 P k d t.2.1 ∧ (∀ q, (Value.slice P k d).ownBlock = some q → q ≠ G) ∧ t.2.2 = m
def RunR (w : World) (r1 : List Int) (r2 : List (List Int)) (m : Nat) (e : Ending) (w' : World) : Prop :=
  ∃ A n c P k d, e = .returned (.tuple #[.agg #[.slice A n c, .slice P k d], .int .i64 (m : Int)]) ∧ RdD w' w'.heap.size A n c r1 P k d r2 ∧ Below w.heap.size w w'
end Go.Proofs.YtnpjelekpkgbpaaDoor
