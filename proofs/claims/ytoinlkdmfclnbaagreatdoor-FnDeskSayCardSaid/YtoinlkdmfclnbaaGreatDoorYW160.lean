/- Bundle W160. -/
import Derived.Test.YtoinlkdmfclnbaaGreatDoorYV16
import Derived.Test.YtoinlkdmfclnbaaGreatDoorYV18
import Derived.Test.YtoinlkdmfclnbaaGreatDoorYVB
namespace Go.Proofs.YtoinlkdmfclnbaaGreatDoor
set_option linter.unusedVariables false
section
open Go.RowKit
def lq10 (x : Nat) : ByteArray := ([⟨#[109, 97, 112]⟩, ⟨#[105, 110, 100, 101, 120]⟩, ⟨#[112, 101, 114, 105, 111, 100]⟩, ⟨#[108, 111, 111, 112, 115]⟩, ⟨#[115, 104, 97, 112, 101]⟩, ⟨#[105, 109, 97, 103, 101]⟩, ⟨#[103, 97, 114, 100, 101, 110]⟩, ⟨#[99, 108, 111, 115, 101, 100]⟩, ⟨#[109, 97, 112, 115]⟩, ⟨#[99, 111, 100, 101]⟩] : List ByteArray).getD x ⟨#[]⟩
theorem lq10_size {x : Nat} (h : x < 10) : (lq10 x).size ≤ 9 := by
 match x, h with
 | 0, _ => exact by decide
 | 1, _ => exact by decide
 | 2, _ => exact by decide
 | 3, _ => exact by decide
 | 4, _ => exact by decide
 | 5, _ => exact by decide
 | 6, _ => exact by decide
 | 7, _ => exact by decide
 | 8, _ => exact by decide
 | 9, _ => exact by decide
theorem lq10_at (V : World) {x : Nat} (h : x < 10) : (V.alloc (.cells #[.string ⟨#[109, 97, 112]⟩, .string ⟨#[105, 110, 100, 101, 120]⟩, .string ⟨#[112, 101, 114, 105, 111, 100]⟩, .string ⟨#[108, 111, 111, 112, 115]⟩, .string ⟨#[115, 104, 97, 112, 101]⟩, .string ⟨#[105, 109, 97, 103, 101]⟩, .string ⟨#[103, 97, 114, 100, 101, 110]⟩, .string ⟨#[99, 108, 111, 115, 101, 100]⟩, .string ⟨#[109, 97, 112, 115]⟩, .string ⟨#[99, 111, 100, 101]⟩] 9)).cell? ⟨V.heap.size, x, none⟩ = some (.string (lq10 x)) := by
 rw [World.cell?_alloc_at _ _ _ _ rfl]
 match x, h with
 | 0, _ => rfl
 | 1, _ => rfl
 | 2, _ => rfl
 | 3, _ => rfl
 | 4, _ => rfl
 | 5, _ => rfl
 | 6, _ => rfl
 | 7, _ => rfl
 | 8, _ => rfl
 | 9, _ => rfl
def lq12 (x : Nat) : ByteArray := ([⟨#[]⟩, ⟨#[108, 101, 97, 100]⟩, ⟨#[108, 101, 97, 100, 32, 49]⟩, ⟨#[108, 101, 97, 100, 32, 48, 49, 32, 50]⟩, ⟨#[112, 111, 119, 101, 114]⟩, ⟨#[112, 111, 119, 101, 114, 32, 120]⟩, ⟨#[98, 101, 104, 105, 110, 100, 32, 57]⟩, ⟨#[119, 97, 121]⟩, ⟨#[119, 97, 121, 32, 120]⟩, ⟨#[119, 97, 121, 32, 49, 50]⟩, ⟨#[32, 109, 97, 112]⟩, ⟨#[98, 97, 99, 107, 32, 48]⟩] : List ByteArray).getD x ⟨#[]⟩
theorem lq12_size {x : Nat} (h : x < 12) : (lq12 x).size ≤ 9 := by
 match x, h with
 | 0, _ => exact by decide
 | 1, _ => exact by decide
 | 2, _ => exact by decide
 | 3, _ => exact by decide
 | 4, _ => exact by decide
 | 5, _ => exact by decide
 | 6, _ => exact by decide
 | 7, _ => exact by decide
 | 8, _ => exact by decide
 | 9, _ => exact by decide
 | 10, _ => exact by decide
 | 11, _ => exact by decide
theorem lq12_at (V : World) {x : Nat} (h : x < 12) : (V.alloc (.cells #[.string ⟨#[]⟩, .string ⟨#[108, 101, 97, 100]⟩, .string ⟨#[108, 101, 97, 100, 32, 49]⟩, .string ⟨#[108, 101, 97, 100, 32, 48, 49, 32, 50]⟩, .string ⟨#[112, 111, 119, 101, 114]⟩, .string ⟨#[112, 111, 119, 101, 114, 32, 120]⟩, .string ⟨#[98, 101, 104, 105, 110, 100, 32, 57]⟩, .string ⟨#[119, 97, 121]⟩, .string ⟨#[119, 97, 121, 32, 120]⟩, .string ⟨#[119, 97, 121, 32, 49, 50]⟩, .string ⟨#[32, 109, 97, 112]⟩, .string ⟨#[98, 97, 99, 107, 32, 48]⟩] 9)).cell? ⟨V.heap.size, x, none⟩ = some (.string (lq12 x)) := by
 rw [World.cell?_alloc_at _ _ _ _ rfl]
 match x, h with
 | 0, _ => rfl
 | 1, _ => rfl
 | 2, _ => rfl
 | 3, _ => rfl
 | 4, _ => rfl
 | 5, _ => rfl
 | 6, _ => rfl
 | 7, _ => rfl
 | 8, _ => rfl
 | 9, _ => rfl
 | 10, _ => rfl
 | 11, _ => rfl
def LineDrawn (w : World) (lo g p : Nat) (e : Ending) (w' : World) : Prop :=
 ∃ t, e = .returned (.string t) ∧ t.size ≤ 20 ∧ Rdr w' lo g (p + 200) ∧ Chg g (g + 1) w w'
set_option maxRecDepth 100000 in
set_option maxHeartbeats 3200000 in
theorem line20_c (g lo p n c : Nat) (A : Option Addr) (xs : List Int) (w : World) (h : Rdr w lo g p) (hF : Rd w w.heap.size A n c xs) (hn : n ≤ 7) (hp : p ≤ 90000) (L : Nat) (hff : ∀ q, (Value.slice A n c).ownBlock = some q → L ≤ q) (hL : g + 1 ≤ L) :
    Calls Tryz.prog 40 #[.pointer (some ⟨g, 0, none⟩), .slice A n c] w (LineDrawn w lo g p) := by
 have hgl := h.lt
 have hlog := h.lo
 go_enter Tryz.func40, Tryz.ntmps40
 go_wp2_with fail
 refine (pickP_c g lo p 6 _ h (by omega) (by omega) (by omega)).mono ?_
 rintro e w2 ⟨x, rfl, hx, hr2, hc2⟩
 have hz2 := hc2.size
 have hg2 := hr2.lt
 have hx6 : (x : Int) < 6 := hx
 rcases (show x = 0 ∨ x = 1 ∨ x = 2 ∨ x = 3 ∨ x = 4 ∨ x = 5 by omega) with rfl | rfl | rfl | rfl | rfl | rfl
 · go_wp2_with fail
   have hr3 := hr2.al (.cells #[.string ⟨#[109, 97, 112]⟩, .string ⟨#[105, 110, 100, 101, 120]⟩, .string ⟨#[112, 101, 114, 105, 111, 100]⟩, .string ⟨#[108, 111, 111, 112, 115]⟩, .string ⟨#[115, 104, 97, 112, 101]⟩, .string ⟨#[105, 109, 97, 103, 101]⟩, .string ⟨#[103, 97, 114, 100, 101, 110]⟩, .string ⟨#[99, 108, 111, 115, 101, 100]⟩, .string ⟨#[109, 97, 112, 115]⟩, .string ⟨#[99, 111, 100, 101]⟩] 9)
   have hc3 := hc2.allocNew (.cells #[.string ⟨#[109, 97, 112]⟩, .string ⟨#[105, 110, 100, 101, 120]⟩, .string ⟨#[112, 101, 114, 105, 111, 100]⟩, .string ⟨#[108, 111, 111, 112, 115]⟩, .string ⟨#[115, 104, 97, 112, 101]⟩, .string ⟨#[105, 109, 97, 103, 101]⟩, .string ⟨#[103, 97, 114, 100, 101, 110]⟩, .string ⟨#[99, 108, 111, 115, 101, 100]⟩, .string ⟨#[109, 97, 112, 115]⟩, .string ⟨#[99, 111, 100, 101]⟩] 9)
   have hcell := fun x (hx : x < 10) => lq10_at w2 hx
   have hz3 : w2.heap.size + 1 ≤ (w2.alloc (.cells #[.string ⟨#[109, 97, 112]⟩, .string ⟨#[105, 110, 100, 101, 120]⟩, .string ⟨#[112, 101, 114, 105, 111, 100]⟩, .string ⟨#[108, 111, 111, 112, 115]⟩, .string ⟨#[115, 104, 97, 112, 101]⟩, .string ⟨#[105, 109, 97, 103, 101]⟩, .string ⟨#[103, 97, 114, 100, 101, 110]⟩, .string ⟨#[99, 108, 111, 115, 101, 100]⟩, .string ⟨#[109, 97, 112, 115]⟩, .string ⟨#[99, 111, 100, 101]⟩] 9)).heap.size := by simp
   generalize w2.alloc (.cells #[.string ⟨#[109, 97, 112]⟩, .string ⟨#[105, 110, 100, 101, 120]⟩, .string ⟨#[112, 101, 114, 105, 111, 100]⟩, .string ⟨#[108, 111, 111, 112, 115]⟩, .string ⟨#[115, 104, 97, 112, 101]⟩, .string ⟨#[105, 109, 97, 103, 101]⟩, .string ⟨#[103, 97, 114, 100, 101, 110]⟩, .string ⟨#[99, 108, 111, 115, 101, 100]⟩, .string ⟨#[109, 97, 112, 115]⟩, .string ⟨#[99, 111, 100, 101]⟩] 9) = w3 at *
   refine (pickP_c g lo (p + 1) 10 _ hr3 (by omega) (by omega) (by omega)).mono ?_
   rintro e w4 ⟨y, rfl, hy, hr4, hc4⟩
   have hyN : y < 10 := by omega
   have hl4 := (hc4.cells w2.heap.size y (by omega) (by omega)).trans (hcell y hyN)
   have hE : LineDrawn w lo g p (.returned (.string (lq10 y))) w4 := ⟨_, rfl, Nat.le_trans (lq10_size hyN) (by omega), hr4.more (by omega), hc3.trans hc4⟩
   have hE := Lib.hid hE
   clear hr2 hc2 hr3 hc3 hr4 hc4 hcell
   go_wp2_with fail
   go_ret
   exact hE.out
 · go_wp2_with fail
   have hr3 := hr2.al (.cells #[.string ⟨#[109, 97, 112]⟩, .string ⟨#[105, 110, 100, 101, 120]⟩, .string ⟨#[112, 101, 114, 105, 111, 100]⟩, .string ⟨#[108, 111, 111, 112, 115]⟩, .string ⟨#[115, 104, 97, 112, 101]⟩, .string ⟨#[105, 109, 97, 103, 101]⟩, .string ⟨#[103, 97, 114, 100, 101, 110]⟩, .string ⟨#[99, 108, 111, 115, 101, 100]⟩, .string ⟨#[109, 97, 112, 115]⟩, .string ⟨#[99, 111, 100, 101]⟩] 9)
   have hc3 := hc2.allocNew (.cells #[.string ⟨#[109, 97, 112]⟩, .string ⟨#[105, 110, 100, 101, 120]⟩, .string ⟨#[112, 101, 114, 105, 111, 100]⟩, .string ⟨#[108, 111, 111, 112, 115]⟩, .string ⟨#[115, 104, 97, 112, 101]⟩, .string ⟨#[105, 109, 97, 103, 101]⟩, .string ⟨#[103, 97, 114, 100, 101, 110]⟩, .string ⟨#[99, 108, 111, 115, 101, 100]⟩, .string ⟨#[109, 97, 112, 115]⟩, .string ⟨#[99, 111, 100, 101]⟩] 9)
   have hcell := fun x (hx : x < 10) => lq10_at w2 hx
   have hz3 : w2.heap.size + 1 ≤ (w2.alloc (.cells #[.string ⟨#[109, 97, 112]⟩, .string ⟨#[105, 110, 100, 101, 120]⟩, .string ⟨#[112, 101, 114, 105, 111, 100]⟩, .string ⟨#[108, 111, 111, 112, 115]⟩, .string ⟨#[115, 104, 97, 112, 101]⟩, .string ⟨#[105, 109, 97, 103, 101]⟩, .string ⟨#[103, 97, 114, 100, 101, 110]⟩, .string ⟨#[99, 108, 111, 115, 101, 100]⟩, .string ⟨#[109, 97, 112, 115]⟩, .string ⟨#[99, 111, 100, 101]⟩] 9)).heap.size := by simp
   generalize w2.alloc (.cells #[.string ⟨#[109, 97, 112]⟩, .string ⟨#[105, 110, 100, 101, 120]⟩, .string ⟨#[112, 101, 114, 105, 111, 100]⟩, .string ⟨#[108, 111, 111, 112, 115]⟩, .string ⟨#[115, 104, 97, 112, 101]⟩, .string ⟨#[105, 109, 97, 103, 101]⟩, .string ⟨#[103, 97, 114, 100, 101, 110]⟩, .string ⟨#[99, 108, 111, 115, 101, 100]⟩, .string ⟨#[109, 97, 112, 115]⟩, .string ⟨#[99, 111, 100, 101]⟩] 9) = w3 at *
   refine (pickP_c g lo (p + 1) 10 _ hr3 (by omega) (by omega) (by omega)).mono ?_
   rintro e w4 ⟨y, rfl, hy, hr4, hc4⟩
   have hyN : y < 10 := by omega
   have hl4 := (hc4.cells w2.heap.size y (by omega) (by omega)).trans (hcell y hyN)
   have hE : LineDrawn w lo g p (.returned (.string (lq10 y))) w4 := ⟨_, rfl, Nat.le_trans (lq10_size hyN) (by omega), hr4.more (by omega), hc3.trans hc4⟩
   have hE := Lib.hid hE
   clear hr2 hc2 hr3 hc3 hr4 hc4 hcell
   go_wp2_with fail
   go_ret
   exact hE.out
 · go_wp2_with fail
   have hr3 := hr2.al (.cells #[.string ⟨#[]⟩, .string ⟨#[108, 101, 97, 100]⟩, .string ⟨#[108, 101, 97, 100, 32, 49]⟩, .string ⟨#[108, 101, 97, 100, 32, 48, 49, 32, 50]⟩, .string ⟨#[112, 111, 119, 101, 114]⟩, .string ⟨#[112, 111, 119, 101, 114, 32, 120]⟩, .string ⟨#[98, 101, 104, 105, 110, 100, 32, 57]⟩, .string ⟨#[119, 97, 121]⟩, .string ⟨#[119, 97, 121, 32, 120]⟩, .string ⟨#[119, 97, 121, 32, 49, 50]⟩, .string ⟨#[32, 109, 97, 112]⟩, .string ⟨#[98, 97, 99, 107, 32, 48]⟩] 9)
   have hc3 := hc2.allocNew (.cells #[.string ⟨#[]⟩, .string ⟨#[108, 101, 97, 100]⟩, .string ⟨#[108, 101, 97, 100, 32, 49]⟩, .string ⟨#[108, 101, 97, 100, 32, 48, 49, 32, 50]⟩, .string ⟨#[112, 111, 119, 101, 114]⟩, .string ⟨#[112, 111, 119, 101, 114, 32, 120]⟩, .string ⟨#[98, 101, 104, 105, 110, 100, 32, 57]⟩, .string ⟨#[119, 97, 121]⟩, .string ⟨#[119, 97, 121, 32, 120]⟩, .string ⟨#[119, 97, 121, 32, 49, 50]⟩, .string ⟨#[32, 109, 97, 112]⟩, .string ⟨#[98, 97, 99, 107, 32, 48]⟩] 9)
   have hcell := fun x (hx : x < 12) => lq12_at w2 hx
   have hz3 : w2.heap.size + 1 ≤ (w2.alloc (.cells #[.string ⟨#[]⟩, .string ⟨#[108, 101, 97, 100]⟩, .string ⟨#[108, 101, 97, 100, 32, 49]⟩, .string ⟨#[108, 101, 97, 100, 32, 48, 49, 32, 50]⟩, .string ⟨#[112, 111, 119, 101, 114]⟩, .string ⟨#[112, 111, 119, 101, 114, 32, 120]⟩, .string ⟨#[98, 101, 104, 105, 110, 100, 32, 57]⟩, .string ⟨#[119, 97, 121]⟩, .string ⟨#[119, 97, 121, 32, 120]⟩, .string ⟨#[119, 97, 121, 32, 49, 50]⟩, .string ⟨#[32, 109, 97, 112]⟩, .string ⟨#[98, 97, 99, 107, 32, 48]⟩] 9)).heap.size := by simp
   generalize w2.alloc (.cells #[.string ⟨#[]⟩, .string ⟨#[108, 101, 97, 100]⟩, .string ⟨#[108, 101, 97, 100, 32, 49]⟩, .string ⟨#[108, 101, 97, 100, 32, 48, 49, 32, 50]⟩, .string ⟨#[112, 111, 119, 101, 114]⟩, .string ⟨#[112, 111, 119, 101, 114, 32, 120]⟩, .string ⟨#[98, 101, 104, 105, 110, 100, 32, 57]⟩, .string ⟨#[119, 97, 121]⟩, .string ⟨#[119, 97, 121, 32, 120]⟩, .string ⟨#[119, 97, 121, 32, 49, 50]⟩, .string ⟨#[32, 109, 97, 112]⟩, .string ⟨#[98, 97, 99, 107, 32, 48]⟩] 9) = w3 at *
   refine (pickP_c g lo (p + 1) 12 _ hr3 (by omega) (by omega) (by omega)).mono ?_
   rintro e w4 ⟨y, rfl, hy, hr4, hc4⟩
   have hyN : y < 12 := by omega
   have hl4 := (hc4.cells w2.heap.size y (by omega) (by omega)).trans (hcell y hyN)
   have hE : LineDrawn w lo g p (.returned (.string (lq12 y))) w4 := ⟨_, rfl, Nat.le_trans (lq12_size hyN) (by omega), hr4.more (by omega), hc3.trans hc4⟩
   have hE := Lib.hid hE
   clear hr2 hc2 hr3 hc3 hr4 hc4 hcell
   go_wp2_with fail
   go_ret
   exact hE.out
 · go_wp2_with fail
   refine (pickP_c g lo (p + 1) 9 _ hr2 (by omega) (by omega) (by omega)).mono ?_
   rintro e w4 ⟨y, rfl, hy, hr4, hc4⟩
   have hz4 := hc4.size
   go_wp2_with fail
   refine (l1Number_c y w4 (by omega)).mono ?_
   rintro e w5 ⟨rfl, hb5⟩
   have hds := decX_size y
   have hE : LineDrawn w lo g p (.returned (.string ((⟨#[119, 97, 121, 32]⟩ : ByteArray) ++ decX y))) w5 := ⟨_, rfl, by rw [ByteArray.size_append]; exact Nat.le_trans (Nat.add_le_add_left hds _) (by have : (⟨#[119, 97, 121, 32]⟩ : ByteArray).size = 4 := rfl; omega), (hr4.up hb5).more (by omega), (hc2.trans hc4).up_ hb5⟩
   have hE := Lib.hid hE
   generalize decX y = T at *
   clear hr2 hc2 hr4 hc4
   go_wp2_with fail
   go_ret
   exact hE.out
 · go_wp2_with fail
   refine (deed_c g lo (p + 1) n c A xs _ hr2 (hF.chgF hff hc2 hL) (by omega) hn).mono ?_
   rintro e w4 ⟨kd, a, b, s, rfl, hs, hr4, hc4⟩
   have hz4 := hc4.size
   go_wp2_with fail
   refine (sDeedText_c kd a b s w4 (by omega)).mono ?_
   rintro e w5 ⟨rfl, hb5⟩
   have hds := dtD_len (frDd (kd, a, b, s))
   have hE : LineDrawn w lo g p (.returned (.string (dtX kd a b s))) w5 := ⟨_, rfl, by rw [dtX_fr, bl_size]; exact hds, (hr4.up hb5).more (by omega), (hc2.trans hc4).up_ hb5⟩
   have hE := Lib.hid hE
   clear hr2 hc2 hr4 hc4 hds
   go_wp2_with fail
   go_ret
   exact hE.out
 · go_wp2_with fail
   refine (deed_c g lo (p + 1) n c A xs _ hr2 (hF.chgF hff hc2 hL) (by omega) hn).mono ?_
   rintro e w4 ⟨kd, a, b, s, rfl, hs, hr4, hc4⟩
   have hz4 := hc4.size
   go_wp2_with fail
   refine (sDeedText_c kd a b s w4 (by omega)).mono ?_
   rintro e w5 ⟨rfl, hb5⟩
   have hds := dtD_len (frDd (kd, a, b, s))
   have hE : LineDrawn w lo g p (.returned (.string (dtX kd a b s))) w5 := ⟨_, rfl, by rw [dtX_fr, bl_size]; exact hds, (hr4.up hb5).more (by omega), (hc2.trans hc4).up_ hb5⟩
   have hE := Lib.hid hE
   clear hr2 hc2 hr4 hc4 hds
   go_wp2_with fail
   go_ret
   exact hE.out
end
end Go.Proofs.YtoinlkdmfclnbaaGreatDoor
