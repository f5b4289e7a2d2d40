/- Bundle V4. -/
import Derived.Test.YtoinlkdmfclnbaaGreatDoorRows
import Derived.Deep.QuietTactic
import Derived.BigQuiet
import Derived.Outline
import Derived.Deep.RegionWith
import Derived.Deep.RegionHeld3
import Derived.Test.YtoinlkdmfclnbaaGreatDoorYP
import Derived.Test.YtoinlkdmfclnbaaGreatDoorYQ
import Derived.Test.YtoinlkdmfclnbaaGreatDoorYV1
import Derived.Test.YtoinlkdmfclnbaaGreatDoorYV2
import Derived.Test.YtoinlkdmfclnbaaGreatDoorYV3
namespace Go.Proofs.YtoinlkdmfclnbaaGreatDoor
set_option linter.unusedVariables false
section
open Go.RowKit
theorem bits_xor (a b : Nat) (ha : a < 9223372036854775808) (hb : b < 9223372036854775808) : bits .xor .i64 (a : Int) (b : Int) = ((a ^^^ b : Nat) : Int) := by
 have hx : a ^^^ b < 2 ^ 63 := Nat.xor_lt_two_pow (by omega) (by omega)
 show IntKind.i64.wrap ((BitVec.ofInt 64 (a : Int) ^^^ BitVec.ofInt 64 (b : Int)).toNat : Int) = _
 rw [BitVec.toNat_xor, ofInt64 a ha, ofInt64 b hb]
 exact wrapSmall _ (by omega)
def Picked (w : World) (lo g p : Nat) (m : Int) (e : Ending) (w' : World) : Prop :=
 ∃ x : Nat, e = .returned (.int .i64 x) ∧ (1 ≤ m → (x : Int) < m) ∧ Rdr w' lo g (p + 1) ∧ Chg g (g + 1) w w'
theorem picked_of {w : World} {lo g p q n c x : Nat} {A : Option Addr} {bs : List Nat} {m : Int} {e : Ending} (k : Nat) (he : e = .returned (.int .i64 (x : Int))) (hx : 1 ≤ m → (x : Int) < m) (hq : q ≤ p) (hlo : lo ≤ g)
    (hg : w.heap[g]? = some (.cells #[.slice A n c, .int .i64 (q : Int)] 112 (0, 0))) (hr : RdB w lo A n c bs) (hn : n ≤ 2000) :
    Picked w lo g p m e ((w.setCell ⟨g, 1, none⟩ (.int .i64 ((q : Int) + 1))).drewN k) := by
 have hc : Chg g (g + 1) w (w.setCell ⟨g, 1, none⟩ (.int .i64 ((q : Int) + 1))) := (Chg.refl g (g + 1) w).setCell (p := ⟨g, 1, none⟩) (Nat.le_refl g) (Nat.lt_succ_self g) _
 have hlt : g < w.heap.size := (Array.getElem?_eq_some_iff.1 hg).1
 refine ⟨x, he, hx, ⟨A, n, c, bs, q + 1, by omega, hlo, ?_, ?_, hn⟩, hc.drewN k⟩
 · show (w.setCell ⟨g, 1, none⟩ (.int .i64 ((q : Int) + 1))).heap[g]? = _
   simp [World.setCell, Array.getElem?_modify, hg]
 · exact (hr.below (hc.below' hlo (by omega))).keep (fun _ _ => rfl)
set_option maxHeartbeats 800000 in
theorem pick_c (g lo p : Nat) (m : Int) (w : World) (h : Rdr w lo g p) (hp : p ≤ 1000000000) (hm : m ≤ 1000000000) :
    Calls Tryz.prog 69 #[.pointer (some ⟨g, 0, none⟩), .int .i64 m] w (Picked w lo g p m) := by
 obtain ⟨A, n, c, bs, q, hq, hlo, hg, hr, hn⟩ := h
 have hc0 : w.cell? ⟨g, 0, none⟩ = some (.slice A n c) := by simp [World.cell?, hg]
 have hc1 : w.cell? ⟨g, 1, none⟩ = some (.int .i64 (q : Int)) := by simp [World.cell?, hg]
 have hf1 : w.frozen? ⟨g, 1, none⟩ = false := by simp [World.frozen?, hg]
 have hW := Lib.hid hg
 have HR := Lib.hid hr
 have hlt : g < w.heap.size := (Array.getElem?_eq_some_iff.1 hg).1
 clear hg hr
 by_cases h1 : m < 1
 · go_enter Tryz.func69, Tryz.ntmps69
   go_wp2
   go_ret
   exact picked_of (x := 0) 0 rfl (fun h => by omega) hq hlo hW.out HR.out hn
 · have h1' : 1 ≤ m := by omega
   by_cases h2 : n = 0
   · subst h2
     go_enter Tryz.func69, Tryz.ntmps69
     go_wp2
     go_ret
     exact picked_of (x := 0) 0 rfl (fun h => by omega) hq hlo hW.out HR.out hn
   · have hne : ((n : Int) == 0) = false := by rw [beq_eq_false_iff_ne]; omega
     by_cases h3 : q < n
     · obtain ⟨b, off, rfl, hb, hcell⟩ := HR.out.at_ h3
       have hby := HR.out.byte q
       have hbg : b ≠ g := by omega
       go_enter Tryz.func69, Tryz.ntmps69
       go_wp2
       go_ret
       obtain ⟨M, rfl⟩ := Int.eq_ofNat_of_zero_le (show 0 ≤ m by omega)
       refine picked_of (x := nx bs q % M) 0 (by simp) (fun _ => ?_) hq hlo hW.out HR.out hn
       have := Nat.mod_lt (nx bs q) (show 0 < M by omega)
       omega
     · have hk1 := Nat.mod_lt q (show 0 < n by omega)
       have hk2 := Nat.mod_lt (q * 7 + 3) (show 0 < n by omega)
       obtain ⟨b, off, rfl, hb, hcells⟩ := HR.out.2.2.2.2 (by omega)
       have hcell1 := hcells _ hk1
       have hcell2 := hcells _ hk2
       have hby1 := HR.out.byte (q % n)
       have hby2 := HR.out.byte ((q * 7 + 3) % n)
       have hbg : b ≠ g := by omega
       clear hcells
       go_enter Tryz.func69, Tryz.ntmps69
       go_wp2
       have hd0 : (w.setCell ⟨g, 1, none⟩ (.int .i64 ((q : Int) + 1))).cell? ⟨g, 0, none⟩ = some (.slice (some ⟨b, off, none⟩) n c) := by
        rw [World.cell?_setCell_other _ _ _ _ (by simp)]; exact hc0
       have hd1 : (w.setCell ⟨g, 1, none⟩ (.int .i64 ((q : Int) + 1))).cell? ⟨b, off + q % n, none⟩ = some (.int .u8 (nx bs (q % n) : Int)) := by
        rw [World.cell?_setCell_other _ _ _ _ (by simp)]; exact hcell1
       have hd2 : (w.setCell ⟨g, 1, none⟩ (.int .i64 ((q : Int) + 1))).cell? ⟨b, off + (q * 7 + 3) % n, none⟩ = some (.int .u8 (nx bs ((q * 7 + 3) % n) : Int)) := by
        rw [World.cell?_setCell_other _ _ _ _ (by simp)]; exact hcell2
       have HP := Lib.hid (fun (x : Nat) (e : Ending) (k : Nat) he hx => picked_of (p := p) (x := x) (m := m) (e := e) k he hx hq hlo hW.out HR.out hn)
       generalize w.setCell ⟨g, 1, none⟩ (.int .i64 ((q : Int) + 1)) = W at hd0 hd1 hd2 HP ⊢
       generalize nx bs (q % n) = b1 at *
       generalize nx bs ((q * 7 + 3) % n) = b2 at *
       have hq' : q ≤ 1000000000 := by omega
       obtain ⟨M, rfl⟩ := Int.eq_ofNat_of_zero_le (show 0 ≤ m by omega)
       have e1 : ((q : Int).tmod (n : Int)) = ((q % n : Nat) : Int) := by rw [Int.tmod_eq_emod_of_nonneg (by omega)]; simp
       have e2 : (((q : Int) * 7 + 3).tmod (n : Int)) = (((q * 7 + 3) % n : Nat) : Int) := by rw [Int.tmod_eq_emod_of_nonneg (by omega)]; simp
       have e3 : ((q : Int).tdiv (n : Int)) = ((q / n : Nat) : Int) := by rw [Int.tdiv_eq_ediv_of_nonneg (by omega)]; simp
       have hi3 : q / n ≤ q := Nat.div_le_self _ _
       generalize q % n = i1 at *
       generalize (q * 7 + 3) % n = i2 at *
       generalize q / n = i3 at *
       obtain ⟨t, ht⟩ : ∃ t : Nat, t = b1 * 131 + b2 * 1117 + q * 29 + i3 * 53 := ⟨_, rfl⟩
       have htb : t ≤ 100000000000 := by omega
       have w1 : IntKind.i64.wrap (i1 : Int) = (i1 : Int) := IntWalk.i64_in _ (by omega)
       have w2 : IntKind.i64.wrap ((q : Int) * 7) = (q : Int) * 7 := IntWalk.i64_in _ (by omega)
       have w3 : IntKind.i64.wrap ((q : Int) * 7 + 3) = (q : Int) * 7 + 3 := IntWalk.i64_in _ (by omega)
       have w4 : IntKind.i64.wrap (i2 : Int) = (i2 : Int) := IntWalk.i64_in _ (by omega)
       have w5 : IntKind.i64.wrap (b1 : Int) = (b1 : Int) := IntWalk.i64_in _ (by omega)
       have w6 : IntKind.i64.wrap ((b1 : Int) * 131) = (b1 : Int) * 131 := IntWalk.i64_in _ (by omega)
       have w7 : IntKind.i64.wrap (b2 : Int) = (b2 : Int) := IntWalk.i64_in _ (by omega)
       have w8 : IntKind.i64.wrap ((b2 : Int) * 1117) = (b2 : Int) * 1117 := IntWalk.i64_in _ (by omega)
       have w9 : IntKind.i64.wrap ((b1 : Int) * 131 + (b2 : Int) * 1117) = (b1 : Int) * 131 + (b2 : Int) * 1117 := IntWalk.i64_in _ (by omega)
       have w10 : IntKind.i64.wrap ((q : Int) * 29) = (q : Int) * 29 := IntWalk.i64_in _ (by omega)
       have w11 : IntKind.i64.wrap ((b1 : Int) * 131 + (b2 : Int) * 1117 + (q : Int) * 29) = (b1 : Int) * 131 + (b2 : Int) * 1117 + (q : Int) * 29 := IntWalk.i64_in _ (by omega)
       have w12 : IntKind.i64.wrap (i3 : Int) = (i3 : Int) := IntWalk.i64_in _ (by omega)
       have w13 : IntKind.i64.wrap ((i3 : Int) * 53) = (i3 : Int) * 53 := IntWalk.i64_in _ (by omega)
       have w14 : IntKind.i64.wrap ((b1 : Int) * 131 + (b2 : Int) * 1117 + (q : Int) * 29 + (i3 : Int) * 53) = (t : Int) := by rw [IntWalk.i64_in _ (by omega)]; omega
       have hx := bits_xor t (t / 64) (by omega) (by omega)
       have hxc : ((t / 64 : Nat) : Int) = (t : Int) / 64 := by simp
       rw [hxc] at hx
       have hxl : t ^^^ t / 64 < 2 ^ 63 := Nat.xor_lt_two_pow (by omega) (by omega)
       generalize t ^^^ t / 64 = y at hx hxl
       have hi0 : (i1 : Int) < (n : Int) := by omega
       have hi02 : (i2 : Int) < (n : Int) := by omega
       have hN : (1 : Int) ≤ (n : Int) := by omega
       have hnz : ((n : Int) = 0) = False := by simp; omega
       clear hc0 hc1 hf1 hcell1 hcell2 ht hxc
       go_quiet (fail)
       clear w1 w2 w3 w4 w5 w6 w7 w8 w9 w10 w11 w12 w13 w14 e1 e2 e3
       go_wp2
       go_ret
       refine HP.out (y % M) _ nq (by simp) (fun _ => ?_)
       have := Nat.mod_lt y (show 0 < M by omega)
       omega
end
section
open Go.RowKit
def Tossed (w : World) (lo g p : Nat) (e : Ending) (w' : World) : Prop :=
 ∃ b : Bool, e = .returned (.bool b) ∧ Rdr w' lo g (p + 1) ∧ Chg g (g + 1) w w'
set_option maxHeartbeats 400000 in
theorem odd_c (g lo p n : Nat) (w : World) (h : Rdr w lo g p) (hp : p ≤ 1000000000) (hn : n ≤ 1000000000) :
    Calls Tryz.prog 70 #[.pointer (some ⟨g, 0, none⟩), .int .i64 (n : Int)] w (Tossed w lo g p) := by
 by_cases h0 : 0 < n
 · go_enter Tryz.func70, Tryz.ntmps70
   go_wp2_with fail
   refine (pick_c g lo p n _ h hp (by omega)).mono ?_
   rintro e w1 ⟨x, rfl, hx, hr, hc⟩
   go_wp2
   go_ret
   exact ⟨_, rfl, hr, hc⟩
 · obtain rfl : n = 0 := by omega
   go_enter Tryz.func70, Tryz.ntmps70
   go_wp2
   go_ret
   exact ⟨_, rfl, h.more (by omega), Chg.refl _ _ _⟩
def Opened (w : World) (e : Ending) (w' : World) : Prop :=
 e = .returned (.pointer (some ⟨w.heap.size, 0, none⟩)) ∧ Rdr w' w.heap.size w.heap.size 0 ∧ Below w.heap.size w w'
set_option maxHeartbeats 400000 in
theorem open_c (A : Option Addr) (n c : Nat) (bs : List Nat) (w : World) (h : RdB w w.heap.size A n c bs) :
    Calls Tryz.prog 38 #[.slice A n c] w (Opened w) := by
 have hc := h.cap
 have hm := h.max
 unfold maxLen at hm
 by_cases h2 : 2000 < n
 · have h' := h.cut (m := 2000) (by omega)
   go_enter Tryz.func38, Tryz.ntmps38
   go_wp2
   go_ret
   exact ⟨rfl, ⟨A, 2000, c, bs.take 2000, 0, Nat.le_refl _, Nat.le_refl _, heap_alloc_new _ _, h'.below ((Below.refl _ _).alloc (Nat.le_refl _) _), Nat.le_refl _⟩, (Below.refl _ _).alloc (Nat.le_refl _) _⟩
 · go_enter Tryz.func38, Tryz.ntmps38
   go_wp2
   go_ret
   exact ⟨rfl, ⟨A, n, c, bs, 0, Nat.le_refl _, Nat.le_refl _, heap_alloc_new _ _, h.below ((Below.refl _ _).alloc (Nat.le_refl _) _), by omega⟩, (Below.refl _ _).alloc (Nat.le_refl _) _⟩
end
section
open Go.RowKit
def Drawn (xs : List Int) : Prop := xs.length ≤ 8 ∧ ∀ x ∈ xs, -1 ≤ x ∧ x ≤ 8
def MapDrawn (w : World) (lo g p : Nat) (e : Ending) (w' : World) : Prop :=
 ∃ (A : Option Addr) (n c : Nat) (xs : List Int), e = .returned (.slice A n c) ∧ OwnIn w' w.heap.size w'.heap.size A n c xs ∧ Drawn xs ∧ Rdr w' lo g (p + 30) ∧ Chg g (g + 1) w w'
theorem forall_set {P : Int → Prop} {xs : List Int} {k : Nat} {u : Int} (h : ∀ x ∈ xs, P x) (hu : P u) : ∀ x ∈ xs.set k u, P x := fun x hx => by
 rcases List.mem_or_eq_of_mem_set hx with h1 | h1
 · exact h x h1
 · rw [h1]; exact hu
theorem forall_gI {P : Int → Prop} {xs : List Int} {k : Nat} (h : ∀ x ∈ xs, P x) (hk : k < xs.length) : P (gI xs k) := by
 rw [gI_get hk]; exact h _ (List.getElem_mem hk)
set_option maxRecDepth 100000 in
set_option maxHeartbeats 6400000 in
theorem map_c (g lo p most n : Nat) (w : World) (h : Rdr w lo g p) (hp : p ≤ 1000000) (hn : n ≤ 1000000) (h1 : 1 ≤ most) (h7 : most ≤ 7) :
    Calls Tryz.prog 95 #[.pointer (some ⟨g, 0, none⟩), .int .i64 (most : Int), .int .i64 (n : Int)] w (MapDrawn w lo g p) := by
 have hgl := h.lt
 have hlog := h.lo
 go_enter Tryz.func95, Tryz.ntmps95
 go_wp2_with fail
 refine (pick_c g lo p most _ h (by omega) (by omega)).mono ?_
 rintro e w1 ⟨x, rfl, hx, hr1, hc1⟩
 have hx' : x < most := by have := hx (by omega); omega
 clear hx
 go_wp2_with fail
 have hsz1 := hc1.size
 have hO2 := OwnV.made w1 w.heap.size #[] (by omega) rfl
 have hc2 := hc1.allocNew (Obj.cells #[] 3)
 have hr2 := hr1.up ((Below.refl w1.heap.size w1).alloc (Nat.le_refl _) (Obj.cells #[] 3))
 generalize w1.alloc (Obj.cells #[] 3) = w2 at hO2 hc2 hr2 ⊢
 generalize w1.heap.size = G1 at hO2 ⊢
 clear hsz1 hr1 hc1 w1
 go_loopw [8, 9] (fun o i wr => ∃ (k : Nat) (xs : List Int), k ≤ x + 1 ∧ i = .int .i64 k ∧ OwnV wr w.heap.size o xs ∧ xs.length = k ∧ (∀ y ∈ xs, 0 ≤ y ∧ y ≤ 7) ∧ Rdr wr lo g (p + 1 + k) ∧ Chg g (g + 1) w wr) (fun o i _ => x + 1 - (intOf i).toNat)
 case atStart => exact ⟨0, [], Nat.zero_le _, rfl, hO2, rfl, by simp, hr2, hc2⟩
 case round =>
  obtain ⟨k, xs, hk, rfl, hO, hl, hb, hr, hc⟩ := hrel
  clear hO2 hc2 hr2
  by_cases hlt : k < x + 1
  · have HL := Lib.hid hl
    have HBd := Lib.hid hb
    have HO := Lib.hid hO
    have HC := Lib.hid hc
    clear hl hb hO hc
    go_wp2_with fail
    refine (pick_c g lo (p + 1 + k) _ _ hr (by omega) (by omega)).mono ?_
    rintro e w3 ⟨y, rfl, hy, hr3, hc3⟩
    have hy' : (y : Int) ≤ 7 := by have := hy (by omega); omega
    have hO3 := HO.out.chg hc3 (by omega)
    have hC3 := HC.out.chg_ hc3 (.inr ⟨Nat.le_refl _, Nat.le_refl _⟩)
    have hs3 := hC3.size
    have HR3 := Lib.hid hr3
    have HC3 := Lib.hid hC3
    have hlen : xs.length ≤ 1000000000000 := by have := HL.out; omega
    clear hr3 hc3 hr hC3 hy
    go_wp2_with (at_builtin; refine app_int w3 _ rfl _ _ rfl w.heap.size _ xs rfl hO3 rfl hlen hs3 ?_; intro v' w' hown' hb')
    go_roundw
    case rel => exact ⟨k + 1, xs ++ [(y : Int)], by omega, by go_num, hown', by rw [List.length_append, HL.out]; rfl, by
     intro z hz
     rw [List.mem_append, List.mem_singleton] at hz
     rcases hz with hz | rfl
     · exact HBd.out z hz
     · omega, (HR3.out.below hb' hgl).more (by omega), HC3.out.then_ hb'⟩
    case measure => simp [intOf]; omega
  · obtain rfl : k = x + 1 := by omega
    obtain ⟨A, c, rfl, hown⟩ := hO.form
    rw [hl] at hown ⊢
    have hin := hown.inn
    obtain ⟨G, rfl⟩ := hin.some_ (by omega)
    have hGlo : w.heap.size ≤ G := (hin.lt G rfl).1
    have hcap := hown.rd.cap
    have hmax := hown.rd.max
    unfold maxLen at hmax
    have hin1 : OwnIn wr w.heap.size (G + 1) (some ⟨G, 0, none⟩) (x + 1) c xs := ⟨hin.1, fun k hk => by cases hk; exact Nat.lt_succ_self _⟩
    clear hO hown hin
    go_wp2_with fail
    refine (pick_c g lo (p + 1 + (x + 1)) 3 _ hr (by omega) (by omega)).mono ?_
    rintro e w5 ⟨y5, rfl, hy5, hr5, hc5⟩
    have HC := hc.chg_ hc5 (.inr ⟨Nat.le_refl _, Nat.le_refl _⟩)
    have HO := hin1.chg hc5 (.inr (by omega))
    have HR := hr5
    have HD := hb
    clear hr hc hin1 hr5 hc5 hb
    have hcase : y5 = 0 ∨ y5 ≠ 0 := by omega
    rcases hcase with h0 | h0
    · subst h0
      go_wp2_with fail
      go_loopw [10] (fun i wr => ∃ (k : Nat) (ys : List Int), k ≤ x + 1 ∧ i = .int .i64 k ∧ OwnIn wr w.heap.size (G + 1) (some ⟨G, 0, none⟩) (x + 1) c ys ∧ (∀ y ∈ ys, 0 ≤ y ∧ y ≤ 7) ∧ Rdr wr lo g (p + 1 + (x + 1) + 1 + k) ∧ Chg g (g + 1) w wr) (fun i _ => x + 1 - (intOf i).toNat)
      case atStart => exact ⟨0, xs, Nat.zero_le _, rfl, HO, HD, HR, HC⟩
      case round =>
       clear HO HD HR HC hl xs
       obtain ⟨k, ys, hk, rfl, HO, HD, HR, HC⟩ := hrel
       by_cases hlt : k < x + 1
       · go_wp2_with fail
         refine (pick_c g lo (p + 1 + (x + 1) + 1 + k) _ _ HR (by omega) (by omega)).mono ?_
         rintro e w6 ⟨t, rfl, ht, hr6, hc6⟩
         have ht' : t ≤ k := by have := ht (by omega); omega
         have HC6 := HC.chg_ hc6 (.inr ⟨Nat.le_refl _, Nat.le_refl _⟩)
         have HO6 := HO.chg hc6 (.inr (by omega))
         have hlen := HO6.len
         have hca := HO6.cell (j := t) (by omega)
         have hck := HO6.cell (j := k) (by omega)
         have hfk := HO6.frozen k
         have hgt := forall_gI HD (k := t) (by omega)
         have HOa := HO6.store k (gI ys t)
         have hcb := HOa.1.cell (j := t) (by omega)
         have hfb := HOa.1.frozen t
         have HOb := HOa.1.store t (k : Int)
         have hsz := HC6.size
         have HRb := Lib.hid ((hr6.chg HOa.2 (by omega) (.inl (by omega))).chg HOb.2 (by omega) (.inl (by omega)))
         have HCb := Lib.hid ((HC6.chg_ HOa.2 (.inl (by omega))).chg_ HOb.2 (.inl (by omega)))
         have HObh := Lib.hid HOb.1
         have HDb := Lib.hid (forall_set (k := t) (u := (k : Int)) (forall_set (k := k) HD hgt) (by omega))
         clear HO HR HC hr6 hc6 HC6 HO6 HOa HOb HD ht hlen
         go_wp2_with fail
         go_roundw
         case rel => exact ⟨k + 1, _, by omega, by go_num, HObh.out, HDb.out, HRb.out.more (by omega), HCb.out⟩
         case measure => simp [intOf]; omega
       · obtain rfl : k = x + 1 := by omega
         go_wp2_with fail
         refine (odd_c g lo (p + 1 + (x + 1) + 1 + (x + 1)) n _ HR (by omega) (by omega)).mono ?_
         rintro e w7 ⟨b7, rfl, hr7, hc7⟩
         have HC7 := HC.chg_ hc7 (.inr ⟨Nat.le_refl _, Nat.le_refl _⟩)
         have HO7 := HO.chg hc7 (.inr (by omega))
         clear HC HO HR hc7
         rcases b7 with _ | _
         · go_wp2_with fail
           go_ret
           exact ⟨_, _, _, _, rfl, HO7.wide (Nat.le_refl _) (by have := (HO7.lt G rfl).2.2; omega), ⟨by have := HO7.len; omega, fun y hy => by have := HD y hy; omega⟩, hr7.more (by omega), HC7⟩
         · go_wp2_with fail
           refine (pick_c g lo ((p + 1 + (x + 1) + 1 + (x + 1)) + 1) 3 _ hr7 (by omega) (by omega)).mono ?_
           rintro e w8 ⟨y8, rfl, hy8, hr8, hc8⟩
           have HC8 := HC7.chg_ hc8 (.inr ⟨Nat.le_refl _, Nat.le_refl _⟩)
           have HO8 := HO7.chg hc8 (.inr (by omega))
           have hs8 := HC8.size
           have hG8 : G < w8.heap.size := (HO8.lt G rfl).2.2
           have hy8' : y8 = 0 ∨ y8 = 1 ∨ y8 = 2 := by have := hy8 (by omega); omega
           clear HC7 HO7 hr7 hc8 hy8
           rcases hy8' with h8 | h8 | h8
           · subst h8
             have hE := Lib.hid (OwnIn.empty_ w8)
             have HCE := Lib.hid (HC8.allocNew (Obj.cells #[] 3))
             have HRE := Lib.hid (hr8.below ((Below.refl w8.heap.size w8).alloc (Nat.le_refl _) (Obj.cells #[] 3)) (by omega))
             go_wp2_with fail
             go_ret
             exact ⟨_, _, _, _, rfl, hE.out.wide hs8 (Nat.le_refl _), ⟨by simp, by simp⟩, HRE.out.more (by omega), HCE.out⟩
           · subst h8
             go_wp2_with fail
             have hb9 : Below w8.heap.size w8 (w8.alloc (Obj.cells #[.int .i64 (-1), .int .i64 (1 + (x : Int))] 3)) := (Below.refl _ _).alloc (Nat.le_refl _) _
             have hb90 : (w8.alloc (Obj.cells #[.int .i64 (-1), .int .i64 (1 + (x : Int))] 3)).cell? ⟨w8.heap.size, 0, none⟩ = some (.int .i64 (-1)) := by simp
             have hb91 : (w8.alloc (Obj.cells #[.int .i64 (-1), .int .i64 (1 + (x : Int))] 3)).cell? ⟨w8.heap.size, 1, none⟩ = some (.int .i64 (1 + (x : Int))) := by simp
             have hs9 : w8.heap.size < (w8.alloc (Obj.cells #[.int .i64 (-1), .int .i64 (1 + (x : Int))] 3)).heap.size := by simp
             have HC9 := HC8.up_ hb9
             have HO9 := HO8.up hb9
             have HR9 := hr8.below hb9 (by omega)
             generalize w8.alloc (Obj.cells #[.int .i64 (-1), .int .i64 (1 + (x : Int))] 3) = w9 at *
             generalize w8.heap.size = G8 at *
             refine (pick_c g lo ((p + 1 + (x + 1) + 1 + (x + 1)) + 2) 2 _ (HR9.more (by omega)) (by omega) (by omega)).mono ?_
             rintro e w10 ⟨y10, rfl, hy10, hr10, hc10⟩
             have HC10 := HC9.chg_ hc10 (.inr ⟨Nat.le_refl _, Nat.le_refl _⟩)
             have HO10 := HO9.chg hc10 (.inr (by omega))
             have hk0 : w10.cell? ⟨G8, 0, none⟩ = some (.int .i64 (-1)) := by rw [World.cell?_of_block (w := w9) (hc10.block G8 hs9 (.inr (by omega)))]; exact hb90
             have hk1 : w10.cell? ⟨G8, 1, none⟩ = some (.int .i64 (1 + (x : Int))) := by rw [World.cell?_of_block (w := w9) (hc10.block G8 hs9 (.inr (by omega)))]; exact hb91
             have hold := HO10.cell (j := 0) (by omega)
             have hfz := HO10.frozen 0
             have hS0 := Lib.hid (HO10.store 0 (-1))
             have hS1 := Lib.hid (HO10.store 0 (1 + (x : Int)))
             have HR10 := Lib.hid hr10
             have HC10' := Lib.hid HC10
             have hy10' : y10 = 0 ∨ y10 = 1 := by have := hy10 (by omega); omega
             clear hb9 hb90 hb91 hs9 HC9 HO9 HR9 hr8 HC8 HO8 hc10 HO10 HC10 hr10 hy10
             rcases hy10' with h10 | h10
             · subst h10
               go_wp2_with fail
               go_ret
               exact ⟨_, _, _, _, rfl, hS0.out.1.wide (Nat.le_refl _) (by have := (hS0.out.1.lt G rfl).2.2; omega), ⟨by have := hS0.out.1.len; omega, forall_set (fun y hy => by have := HD y hy; omega) (by omega)⟩, (HR10.out.chg hS0.out.2 (by omega) (.inl (by omega))).more (by omega), HC10'.out.chg_ hS0.out.2 (.inl (by omega))⟩
             · subst h10
               go_wp2_with fail
               go_ret
               exact ⟨_, _, _, _, rfl, hS1.out.1.wide (Nat.le_refl _) (by have := (hS1.out.1.lt G rfl).2.2; omega), ⟨by have := hS1.out.1.len; omega, forall_set (fun y hy => by have := HD y hy; omega) (by omega)⟩, (HR10.out.chg hS1.out.2 (by omega) (.inl (by omega))).more (by omega), HC10'.out.chg_ hS1.out.2 (.inl (by omega))⟩
           · subst h8
             obtain ⟨i0, hi, hz0, hz1, hz2⟩ := info_parts int_info
             go_wp2_with (at_make; refine wpList_make_full _ rfl _ _ 23 rfl w8.heap.size 3 i0 (.int .i64 0) 1 Tryz.underlying23 hi hz0 hz1 _ _ _ _ 8 rfl rfl rfl rfl (by rw [hz2]; omega) (by unfold maxLen; omega) (Nat.le_refl _) ?_)
             intro w9 hown9 hg9
             have hb9 : Below w8.heap.size w8 w9 := (Below.refl _ _).grown hg9 (Nat.le_refl _) (fun k hk => by cases hk)
             have HO9 := Lib.hid (tree_start (w := w9) (B := w8.heap.size) (n := 8) (r := 0) (by omega) (by simpa [toList_madeCells_one, Value.cells] using hown9))
             have HC9 := Lib.hid (HC8.up_ hb9)
             have HR9 := Lib.hid (hr8.below hb9 (by omega))
             clear hown9 hg9 hb9
             go_wp2_with fail
             go_ret
             exact ⟨_, _, _, _, rfl, HO9.out.wide hs8 (by have := (HO9.out.lt w8.heap.size rfl).2.2; omega), ⟨by rw [ints_len]; simp, by rw [ints_replicate]; intro y hy; have := List.eq_of_mem_replicate hy; omega⟩, HR9.out.more (by omega), HC9.out⟩
    · have hq : ((y5 : Int) == 0) = false := by rw [beq_eq_false_iff_ne]; omega
      go_wp2_with fail
      refine (odd_c g lo (p + 1 + (x + 1) + 1) n _ HR (by omega) (by omega)).mono ?_
      rintro e w7 ⟨b7, rfl, hr7, hc7⟩
      have HC7 := HC.chg_ hc7 (.inr ⟨Nat.le_refl _, Nat.le_refl _⟩)
      have HO7 := HO.chg hc7 (.inr (by omega))
      clear HC HO HR hc7
      rcases b7 with _ | _
      · go_wp2_with fail
        go_ret
        exact ⟨_, _, _, _, rfl, HO7.wide (Nat.le_refl _) (by have := (HO7.lt G rfl).2.2; omega), ⟨by have := HO7.len; omega, fun y hy => by have := HD y hy; omega⟩, hr7.more (by omega), HC7⟩
      · go_wp2_with fail
        refine (pick_c g lo ((p + 1 + (x + 1) + 1) + 1) 3 _ hr7 (by omega) (by omega)).mono ?_
        rintro e w8 ⟨y8, rfl, hy8, hr8, hc8⟩
        have HC8 := HC7.chg_ hc8 (.inr ⟨Nat.le_refl _, Nat.le_refl _⟩)
        have HO8 := HO7.chg hc8 (.inr (by omega))
        have hs8 := HC8.size
        have hG8 : G < w8.heap.size := (HO8.lt G rfl).2.2
        have hy8' : y8 = 0 ∨ y8 = 1 ∨ y8 = 2 := by have := hy8 (by omega); omega
        clear HC7 HO7 hr7 hc8 hy8
        rcases hy8' with h8 | h8 | h8
        · subst h8
          have hE := Lib.hid (OwnIn.empty_ w8)
          have HCE := Lib.hid (HC8.allocNew (Obj.cells #[] 3))
          have HRE := Lib.hid (hr8.below ((Below.refl w8.heap.size w8).alloc (Nat.le_refl _) (Obj.cells #[] 3)) (by omega))
          go_wp2_with fail
          go_ret
          exact ⟨_, _, _, _, rfl, hE.out.wide hs8 (Nat.le_refl _), ⟨by simp, by simp⟩, HRE.out.more (by omega), HCE.out⟩
        · subst h8
          go_wp2_with fail
          have hb9 : Below w8.heap.size w8 (w8.alloc (Obj.cells #[.int .i64 (-1), .int .i64 (1 + (x : Int))] 3)) := (Below.refl _ _).alloc (Nat.le_refl _) _
          have hb90 : (w8.alloc (Obj.cells #[.int .i64 (-1), .int .i64 (1 + (x : Int))] 3)).cell? ⟨w8.heap.size, 0, none⟩ = some (.int .i64 (-1)) := by simp
          have hb91 : (w8.alloc (Obj.cells #[.int .i64 (-1), .int .i64 (1 + (x : Int))] 3)).cell? ⟨w8.heap.size, 1, none⟩ = some (.int .i64 (1 + (x : Int))) := by simp
          have hs9 : w8.heap.size < (w8.alloc (Obj.cells #[.int .i64 (-1), .int .i64 (1 + (x : Int))] 3)).heap.size := by simp
          have HC9 := HC8.up_ hb9
          have HO9 := HO8.up hb9
          have HR9 := hr8.below hb9 (by omega)
          generalize w8.alloc (Obj.cells #[.int .i64 (-1), .int .i64 (1 + (x : Int))] 3) = w9 at *
          generalize w8.heap.size = G8 at *
          refine (pick_c g lo ((p + 1 + (x + 1) + 1) + 2) 2 _ (HR9.more (by omega)) (by omega) (by omega)).mono ?_
          rintro e w10 ⟨y10, rfl, hy10, hr10, hc10⟩
          have HC10 := HC9.chg_ hc10 (.inr ⟨Nat.le_refl _, Nat.le_refl _⟩)
          have HO10 := HO9.chg hc10 (.inr (by omega))
          have hk0 : w10.cell? ⟨G8, 0, none⟩ = some (.int .i64 (-1)) := by rw [World.cell?_of_block (w := w9) (hc10.block G8 hs9 (.inr (by omega)))]; exact hb90
          have hk1 : w10.cell? ⟨G8, 1, none⟩ = some (.int .i64 (1 + (x : Int))) := by rw [World.cell?_of_block (w := w9) (hc10.block G8 hs9 (.inr (by omega)))]; exact hb91
          have hold := HO10.cell (j := 0) (by omega)
          have hfz := HO10.frozen 0
          have hS0 := Lib.hid (HO10.store 0 (-1))
          have hS1 := Lib.hid (HO10.store 0 (1 + (x : Int)))
          have HR10 := Lib.hid hr10
          have HC10' := Lib.hid HC10
          have hy10' : y10 = 0 ∨ y10 = 1 := by have := hy10 (by omega); omega
          clear hb9 hb90 hb91 hs9 HC9 HO9 HR9 hr8 HC8 HO8 hc10 HO10 HC10 hr10 hy10
          rcases hy10' with h10 | h10
          · subst h10
            go_wp2_with fail
            go_ret
            exact ⟨_, _, _, _, rfl, hS0.out.1.wide (Nat.le_refl _) (by have := (hS0.out.1.lt G rfl).2.2; omega), ⟨by have := hS0.out.1.len; omega, forall_set (fun y hy => by have := HD y hy; omega) (by omega)⟩, (HR10.out.chg hS0.out.2 (by omega) (.inl (by omega))).more (by omega), HC10'.out.chg_ hS0.out.2 (.inl (by omega))⟩
          · subst h10
            go_wp2_with fail
            go_ret
            exact ⟨_, _, _, _, rfl, hS1.out.1.wide (Nat.le_refl _) (by have := (hS1.out.1.lt G rfl).2.2; omega), ⟨by have := hS1.out.1.len; omega, forall_set (fun y hy => by have := HD y hy; omega) (by omega)⟩, (HR10.out.chg hS1.out.2 (by omega) (.inl (by omega))).more (by omega), HC10'.out.chg_ hS1.out.2 (.inl (by omega))⟩
        · subst h8
          obtain ⟨i0, hi, hz0, hz1, hz2⟩ := info_parts int_info
          go_wp2_with (at_make; refine wpList_make_full _ rfl _ _ 23 rfl w8.heap.size 3 i0 (.int .i64 0) 1 Tryz.underlying23 hi hz0 hz1 _ _ _ _ 8 rfl rfl rfl rfl (by rw [hz2]; omega) (by unfold maxLen; omega) (Nat.le_refl _) ?_)
          intro w9 hown9 hg9
          have hb9 : Below w8.heap.size w8 w9 := (Below.refl _ _).grown hg9 (Nat.le_refl _) (fun k hk => by cases hk)
          have HO9 := Lib.hid (tree_start (w := w9) (B := w8.heap.size) (n := 8) (r := 0) (by omega) (by simpa [toList_madeCells_one, Value.cells] using hown9))
          have HC9 := Lib.hid (HC8.up_ hb9)
          have HR9 := Lib.hid (hr8.below hb9 (by omega))
          clear hown9 hg9 hb9
          go_wp2_with fail
          go_ret
          exact ⟨_, _, _, _, rfl, HO9.out.wide hs8 (by have := (HO9.out.lt w8.heap.size rfl).2.2; omega), ⟨by rw [ints_len]; simp, by rw [ints_replicate]; intro y hy; have := List.eq_of_mem_replicate hy; omega⟩, HR9.out.more (by omega), HC9.out⟩
end
section
open Go.RowKit
def PickedP (w : World) (lo g p : Nat) (m : Int) (e : Ending) (w' : World) : Prop :=
 ∃ x : Nat, e = .returned (.int .i64 x) ∧ (x : Int) < m ∧ Rdr w' lo g (p + 1) ∧ Chg g (g + 1) w w'
theorem pickP_c (g lo p : Nat) (m : Int) (w : World) (h : Rdr w lo g p) (hp : p ≤ 1000000000) (hm : m ≤ 1000000000) (h1 : 1 ≤ m) :
    Calls Tryz.prog 69 #[.pointer (some ⟨g, 0, none⟩), .int .i64 m] w (PickedP w lo g p m) :=
 (pick_c g lo p m w h hp hm).mono fun e w' ⟨x, he, hx, hr, hc⟩ => ⟨x, he, hx h1, hr, hc⟩
end
section
open Go.RowKit
theorem rd_two (w : World) (a b : Int) : Rd (w.alloc (Obj.cells #[.int .i64 a, .int .i64 b] 3)) (w.alloc (Obj.cells #[.int .i64 a, .int .i64 b] 3)).heap.size (some ⟨w.heap.size, 0, none⟩) 2 2 [a, b] :=
 ⟨rfl, Nat.le_refl _, by unfold maxLen; omega, fun _ => ⟨w.heap.size, 0, rfl, by simp, fun k hk => by
  have : k = 0 ∨ k = 1 := by omega
  rcases this with rfl | rfl <;> simp [gI]⟩⟩
set_option maxHeartbeats 400000 in
theorem alive_c (w : World) : Calls Tryz.prog 14 #[] w fun e w' => e = .returned (.bool true) ∧ Below w.heap.size w w' := by
 have h1 : mapOk [1, 0] = true := by decide
 have h2 : mapOk [2, 0] = false := by decide
 go_enter Tryz.func14, Tryz.ntmps14
 go_wp2_with fail
 have hr1 := rd_two w 1 0
 have hb1 : Below w.heap.size w (w.alloc (Obj.cells #[.int .i64 1, .int .i64 0] 3)) := (Below.refl _ _).alloc (Nat.le_refl _) _
 generalize w.alloc (Obj.cells #[.int .i64 1, .int .i64 0] 3) = w1 at hr1 hb1 ⊢
 refine (mapOk_c _ _ _ _ _ hr1).mono ?_
 rintro e w' ⟨rfl, rfl⟩
 go_wp2_with fail
 have hr2 := rd_two w1 2 0
 have hb2 := bt hb1 ((Below.refl w1.heap.size w1).alloc (Nat.le_refl _) (Obj.cells #[.int .i64 2, .int .i64 0] 3))
 generalize w1.alloc (Obj.cells #[.int .i64 2, .int .i64 0] 3) = w2 at hr2 hb2 ⊢
 refine (mapOk_c _ _ _ _ _ hr2).mono ?_
 rintro e w' ⟨rfl, rfl⟩
 go_wp2_with fail
 go_ret
 exact ⟨rfl, hb2⟩
set_option maxHeartbeats 400000 in
theorem sameInts_c (A A' : Option Addr) (n c n' c' : Nat) (xs ys : List Int) (w : World) (h : Rd w w.heap.size A n c xs) (h' : Rd w w.heap.size A' n' c' ys) :
    Calls Tryz.prog 65 #[.slice A n c, .slice A' n' c'] w fun e w' => e = .returned (.bool (eqB xs ys)) ∧ ∃ m, w' = w.drewN m := by
 have HL := Lib.hid h.len
 have HL' := Lib.hid h'.len
 have hm := h.max
 have hc := h.cap
 have hm' := h'.max
 have hc' := h'.cap
 unfold maxLen at hm hm'
 by_cases hne : n = n'
 · subst hne
   go_enter Tryz.func65, Tryz.ntmps65
   go_wp2
   go_loopw [5] (fun i wr => ∃ k : Nat, k ≤ n ∧ i = .int .i64 k ∧ (∀ j, j < k → gI xs j = gI ys j) ∧ ∃ m, wr = w.drewN m) (fun i _ => n - (intOf i).toNat)
   case atStart => exact ⟨0, Nat.zero_le _, rfl, fun j hj => absurd hj (Nat.not_lt_zero _), 0, rfl⟩
   case round =>
    obtain ⟨k, hk, rfl, hall, m, rfl⟩ := hrel
    have HA := Lib.hid hall
    clear hall
    by_cases hlt : k < n
    · obtain ⟨b, off, rfl, hb, hcell⟩ := h.at_ hlt
      obtain ⟨b', off', rfl, hb', hcell'⟩ := h'.at_ hlt
      by_cases he : gI xs k = gI ys k
      · have hq : (gI xs k != gI ys k) = false := by simp [he]
        have HE := Lib.hid he
        clear he
        go_wp2
        go_quiet (fail)
        go_wp2
        go_roundw
        case rel => exact ⟨k + 1, by omega, by go_num, fun j hj => by
         rcases Nat.lt_or_ge j k with h' | h'
         · exact HA.out j h'
         · obtain rfl : j = k := by omega
           exact HE.out, _, rfl⟩
        case measure => simp [intOf]; omega
      · have hq : (gI xs k != gI ys k) = true := by simp [he]
        have HE := Lib.hid he
        clear he
        go_wp2
        go_quiet (fail)
        go_wp2
        go_ret
        exact ⟨boolEnd (decide_eq_false (fun e => HE.out (by rw [e]))).symm, _, World.drewN_drewN ..⟩
    · go_wp2
      go_ret
      exact ⟨boolEnd (decide_eq_true (eq_of_gI (by rw [HL.out, HL'.out]) (fun j hj => HA.out j (by have := HL.out; omega)))).symm, _, rfl⟩
 · have hq : ((n : Int) != (n' : Int)) = true := by simp; omega
   go_enter Tryz.func65, Tryz.ntmps65
   go_wp2
   go_ret
   exact ⟨boolEnd (decide_eq_false (fun e => hne (by rw [← HL.out, ← HL'.out, e]))).symm, 0, rfl⟩
theorem turn_start {w : World} {B n : Nat} (h : w.ownsRow B 3 1 (.slice (some ⟨B, 0, none⟩) n n) n (List.replicate n (Value.int .i64 0))) :
    OwnIn w B (B + 1) (some ⟨B, 0, none⟩) n n (ints (List.replicate n 0)) := by
 refine ⟨⟨by rw [ints_len]; simp, ?_⟩, fun k hk => by cases hk; exact Nat.lt_succ_self _⟩
 rw [ints_replicate, List.map_replicate]; exact h
set_option maxRecDepth 100000 in
set_option maxHeartbeats 1600000 in
theorem turnedOf_ok (A : Option Addr) (c : Nat) (f : List Nat) (w : World) (h : Rd w w.heap.size A f.length c (ints f)) (hf : MapN f) :
    Calls Tryz.prog 175 #[.slice A f.length c] w (RowBool w (if turned f then ints (backN f) else []) (turned f)) := by
 have h7 := hf.le7
 have h1 := hf.pos
 have hok := mapOk_ints hf
 obtain ⟨i0, hi, hz0, hz1, hz2⟩ := info_parts int_info
 obtain ⟨r, hr⟩ : ∃ r, r = (if turned f then ints (backN f) else []) := ⟨_, rfl⟩
 rw [← hr]
 have HR := Lib.hid hr
 clear hr
 go_enter Tryz.func175, Tryz.ntmps175
 go_wp2_with (first
  | (go_at_call 68; refine (mapOk_c _ _ _ _ _ h).mono ?_; rintro e w' ⟨rfl, rfl⟩)
  | (at_make; refine wpList_make_full _ rfl _ _ 23 rfl w.heap.size 3 i0 (.int .i64 0) 1 Tryz.underlying23 hi hz0 hz1 _ _ _ _ f.length rfl rfl rfl rfl (by rw [hz2]; omega) (by unfold maxLen; omega) (Nat.le_refl _) ?_))
 intro w1 hown1 hg1
 have hb1 : Below w.heap.size w w1 := (Below.refl _ _).grown hg1 (Nat.le_refl _) (fun k hk => by cases hk)
 have ho1 : OwnIn w1 w.heap.size (w.heap.size + 1) (some ⟨w.heap.size, 0, none⟩) f.length f.length (ints (backK f 0)) := turn_start (by simpa [toList_madeCells_one, Value.cells] using hown1)
 clear hown1 hg1
 go_wp2_with fail
 go_loopw [5, 16] (fun s i wr => ∃ k : Nat, k ≤ f.length ∧ i = .int .i64 k ∧ s = .int .i64 ((metK f k : Nat) : Int) ∧ (∀ j, j < k → (metK f j).testBit (nx f j) = false) ∧ OwnIn wr w.heap.size (w.heap.size + 1) (some ⟨w.heap.size, 0, none⟩) f.length f.length (ints (backK f k)) ∧ Below w.heap.size w wr) (fun s i _ => f.length - (intOf i).toNat)
 case atStart => exact ⟨0, Nat.zero_le _, rfl, rfl, fun j hj => absurd hj (Nat.not_lt_zero _), ho1, hb1⟩
 case round =>
  clear ho1 hb1
  obtain ⟨k, hk, rfl, rfl, hno, ho, hbw⟩ := hrel
  have HN := Lib.hid hno
  clear hno
  by_cases hlt : k < f.length
  · obtain ⟨b, off, rfl, hb, hcell0⟩ := h.at_ hlt
    have hcell : wr.cell? ⟨b, off + k, none⟩ = some (.int .i64 ((nx f k : Nat) : Int)) := by rw [hbw.cell (p := ⟨b, off + k, none⟩) hb, hcell0, gI_ints]
    have hx := hf.has k hlt
    have hm7 := metK_lt hf hk
    have h2 := two_le (k := nx f k) (by omega)
    have hi1 : (1 : Int) ≤ 2 ^ nx f k := by rw [castPow]; omega
    have hi2 : (2 : Int) ^ nx f k ≤ 128 := by rw [castPow]; omega
    have hand : (bits .and .i64 ((metK f k : Nat) : Int) (2 ^ nx f k) != 0) = (metK f k).testBit (nx f k) := by
     rw [castPow, bits_and _ _ (by omega) (by omega), ← and_two_ne, Bool.eq_iff_iff]; simp
    have hor : bits .or .i64 ((metK f k : Nat) : Int) (2 ^ nx f k) = ((metK f k ||| 2 ^ nx f k : Nat) : Int) := by
     rw [castPow]; exact bits_or _ _ (by omega) (by omega)
    have hold := ho.cell (j := nx f k) (by omega)
    have hfz := ho.frozen (nx f k)
    have HST := Lib.hid (ho.store (nx f k) (k : Int))
    have HB := Lib.hid hbw
    clear h2 hcell0 ho hbw
    rcases hbt : (metK f k).testBit (nx f k) with _ | _
    · have HT := Lib.hid hbt
      go_wp2_with fail
      go_roundw
      case rel => exact ⟨k + 1, by omega, by go_num, rfl, fun j hj => by
       rcases Nat.lt_or_ge j k with h' | h'
       · exact HN.out j h'
       · obtain rfl : j = k := by omega
         exact HT.out, by rw [backK, ints_set]; exact HST.out.1, HB.out.trans (HST.out.2.below (by have := HB.out.size; omega))⟩
      case measure => simp [intOf]; omega
    · have HT := Lib.hid (turned_not hlt hbt)
      go_wp2_with fail
      go_ret2
      have hr := HR.out
      rw [HT.out] at hr ⊢
      rw [if_neg (by decide)] at hr
      subst hr
      exact ⟨_, _, _, rfl, OwnIn.nil_ _ _ _, HB.out⟩
  · obtain rfl : k = f.length := by omega
    have HT := Lib.hid (turned_yes HN.out)
    have HO := Lib.hid ho
    clear ho
    go_wp2_with fail
    go_ret2
    have hr := HR.out
    rw [HT.out] at hr ⊢
    rw [if_pos rfl] at hr
    subst hr
    exact ⟨_, _, _, rfl, HO.out.wide (Nat.le_refl _) (by have := (HO.out.lt w.heap.size rfl).2.2; omega), hbw⟩
end
section
open Go.RowKit
end
section
open Go.RowKit
end
end Go.Proofs.YtoinlkdmfclnbaaGreatDoor
