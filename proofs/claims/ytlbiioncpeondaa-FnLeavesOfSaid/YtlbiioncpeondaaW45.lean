/- Walks: l20Code, l20Tree, the drawings of trees and codes (spec). Printed by gen_w45.py. -/
import Derived.Test.YtlbiioncpeondaaV4
import Derived.Test.YtlbiioncpeondaaV3
namespace Go.Proofs.Ytlbiioncpeondaa
set_option linter.unusedVariables false
open Go.RowKit

/-- A drawing function of one row, over a reader. -/
def RowDrawn (w : World) (lo g p : Nat) (e : Ending) (w' : World) : Prop :=
  ∃ (A : Option Addr) (n c : Nat) (xs : List Int), e = .returned (.slice A n c) ∧ OwnIn w' w.heap.size w'.heap.size A n c xs ∧ Rdr w' lo g p ∧ Chg g (g + 1) w w'
def RowOut (w : World) (e : Ending) (w' : World) : Prop :=
  ∃ (A : Option Addr) (n c : Nat) (xs : List Int), e = .returned (.slice A n c) ∧ OwnIn w' w.heap.size w'.heap.size A n c xs ∧ Below w.heap.size w w'
theorem OwnV.slice_ {w : World} {B : Nat} {v : Value} {xs : List Int} (h : OwnV w B v xs) : ∃ A c, v = .slice A xs.length c ∧ OwnIn w B w.heap.size A xs.length c xs := by
  obtain ⟨A, c, rfl, hO⟩ := h.form
  exact ⟨A, c, rfl, hO.inn⟩

theorem OwnV.slice_s {w : World} {B : Nat} {v : Value} {xs : List Int} {y : Int} (h : OwnV w B v (xs ++ [y])) : ∃ A c, v = .slice A (xs.length + 1) c ∧ OwnIn w B w.heap.size A (xs.length + 1) c (xs ++ [y]) := by
  obtain ⟨A, c, rfl, hO⟩ := h.form
  rw [List.length_append] at hO ⊢
  exact ⟨A, c, rfl, hO.inn⟩
set_option maxRecDepth 100000 in
set_option maxHeartbeats 3200000 in
theorem code_c (g lo p n : Nat) (w : World) (h : Rdr w lo g p) (hp : p ≤ 1000000) (hn : n ≤ 1000000) :
    Calls Try.prog 69 #[.pointer (some ⟨g, 0, none⟩), .int .i64 (n : Int)] w (RowDrawn w lo g (p + 20)) := by
  have hgl := h.lt
  have hlog := h.lo
  have hO0 := OwnV.made w w.heap.size #[] (Nat.le_refl _) rfl
  have hc0 := (Chg.refl g (g + 1) w).allocNew (Obj.cells #[] 3)
  have hr0 := h.up ((Below.refl w.heap.size w).alloc (Nat.le_refl _) (Obj.cells #[] 3))
  go_enter Try.func69, Try.ntmps69
  go_wp2_with fail
  generalize w.alloc (Obj.cells #[] 3) = w0 at hO0 hc0 hr0 ⊢
  refine (pickP_c g lo p 7 _ hr0 (by omega) (by omega) (by omega)).mono ?_
  rintro e w1 ⟨x, rfl, hx, hr1, hc1⟩
  have hO1 := hO0.chg hc1 (by omega)
  have hC1 := hc0.chg_ hc1 (.inr ⟨Nat.le_refl _, Nat.le_refl _⟩)
  clear hO0 hc0 hr0 hc1
  go_wp2_with fail
  go_loopw [5, 7] (fun o i wr => ∃ (k : Nat) (xs : List Int), k ≤ x ∧ i = .int .i64 k ∧ OwnV wr w.heap.size o xs ∧ xs.length = k ∧ Rdr wr lo g (p + 1 + k) ∧ Chg g (g + 1) w wr) (fun o i _ => x - (intOf i).toNat)
  case atStart => exact ⟨0, [], Nat.zero_le _, rfl, hO1, rfl, hr1, hC1⟩
  case round =>
    obtain ⟨k, xs, hk, rfl, hO, hl, hr, hc⟩ := hrel
    clear hO1 hC1 hr1
    by_cases hlt : k < x
    · have HL := Lib.hid hl
      have HO := Lib.hid hO
      have HC := Lib.hid hc
      clear hl hO hc
      go_wp2_with fail
      refine (pickP_c g lo (p + 1 + k) _ _ hr (by omega) (by omega) (by omega)).mono ?_
      rintro e w3 ⟨y, rfl, hy, hr3, hc3⟩
      have hO3 := HO.out.chg hc3 (by omega)
      have hC3 := HC.out.chg_ hc3 (.inr ⟨Nat.le_refl _, Nat.le_refl _⟩)
      have hs3 := hC3.size
      have HR3 := Lib.hid hr3
      have HC3 := Lib.hid hC3
      have hlen : xs.length ≤ 1000000000000 := by have := HL.out; omega
      clear hr3 hc3 hr hC3
      go_wp2_with (at_builtin; refine app_int w3 _ rfl _ _ rfl w.heap.size _ xs rfl hO3 rfl hlen hs3 ?_; intro v' w' hown' hb')
      go_roundw
      case rel => exact ⟨k + 1, xs ++ [(y : Int)], by omega, by go_num, hown', by rw [List.length_append, HL.out]; rfl, (HR3.out.below hb' hgl).more (by omega), HC3.out.then_ hb'⟩
      case measure => simp [intOf]; omega
    · obtain rfl : k = x := by omega
      have HL := Lib.hid hl
      clear hl
      go_wp2_with fail
      refine (odd_c g lo _ n _ hr (by omega) (by omega)).mono ?_
      rintro e w4 ⟨b, rfl, hr4, hc4⟩
      have hO4 := hO.chg hc4 (by omega)
      have hC4 := hc.chg_ hc4 (.inr ⟨Nat.le_refl _, Nat.le_refl _⟩)
      clear hO hc hc4 hr
      rcases b with _ | _
      · obtain ⟨A, c, rfl, hI⟩ := hO4.slice_
        go_wp2_with fail
        go_ret
        exact ⟨A, _, c, xs, rfl, hI, hr4.more (by omega), hC4⟩
      · go_wp2_with fail
        refine (pickP_c g lo _ 2 _ hr4 (by omega) (by omega) (by omega)).mono ?_
        rintro e w5 ⟨y, rfl, hy, hr5, hc5⟩
        have hO5 := hO4.chg hc5 (by omega)
        have hC5 := hC4.chg_ hc5 (.inr ⟨Nat.le_refl _, Nat.le_refl _⟩)
        have hs5 := hC5.size
        have hy' : y = 0 ∨ y = 1 := by omega
        clear hO4 hC4 hr4 hc5 hy
        rcases hy' with h8 | h8
        · subst h8
          go_wp2_with fail
          have hb9 : Below w5.heap.size w5 (w5.alloc (Obj.cells #[.int .i64 (-1), .int .i64 9] 3)) := (Below.refl _ _).alloc (Nat.le_refl _) _
          have hb90 : (w5.alloc (Obj.cells #[.int .i64 (-1), .int .i64 9] 3)).cell? ⟨w5.heap.size, 0, none⟩ = some (.int .i64 (-1)) := by simp
          have hb91 : (w5.alloc (Obj.cells #[.int .i64 (-1), .int .i64 9] 3)).cell? ⟨w5.heap.size, 1, none⟩ = some (.int .i64 9) := by simp
          have hs9 : w5.heap.size < (w5.alloc (Obj.cells #[.int .i64 (-1), .int .i64 9] 3)).heap.size := by simp
          have HC9 := hC5.up_ hb9
          have HO9 := hO5.up hb9
          have HR9 := hr5.below hb9 (by omega)
          generalize w5.alloc (Obj.cells #[.int .i64 (-1), .int .i64 9] 3) = w9 at *
          generalize w5.heap.size = G8 at *
          refine (pickP_c g lo _ 2 _ HR9 (by omega) (by omega) (by omega)).mono ?_
          rintro e w10 ⟨z, rfl, hz, hr10, hc10⟩
          have HC10 := HC9.chg_ hc10 (.inr ⟨Nat.le_refl _, Nat.le_refl _⟩)
          have HO10 := HO9.chg hc10 (by omega)
          have hk0 : w10.cell? ⟨G8, 0, none⟩ = some (.int .i64 (-1)) := by rw [World.cell?_of_block (w := w9) (hc10.block G8 hs9 (.inr (by omega)))]; exact hb90
          have hk1 : w10.cell? ⟨G8, 1, none⟩ = some (.int .i64 9) := by rw [World.cell?_of_block (w := w9) (hc10.block G8 hs9 (.inr (by omega)))]; exact hb91
          have hz' : z = 0 ∨ z = 1 := by omega
          have hlen : xs.length ≤ 1000000000000 := by have := HL.out; omega
          have hs10 := HC10.size
          have HC10' := Lib.hid HC10
          have HR10 := Lib.hid hr10
          clear hb9 hb90 hb91 hs9 HC9 HO9 HR9 hr5 hC5 hO5 hc10 HC10 hr10 hz
          rcases hz' with h10 | h10
          · subst h10
            go_wp2_with (at_builtin; refine app_int w10 _ rfl _ _ rfl w.heap.size _ xs rfl HO10 rfl hlen hs10 ?_; intro v' w' hown' hb'; obtain ⟨A, c, rfl, hI⟩ := hown'.slice_s)
            go_ret
            exact ⟨_, _, _, _, rfl, hI, (HR10.out.below hb' hgl).more (by omega), HC10'.out.then_ hb'⟩
          · subst h10
            go_wp2_with (at_builtin; refine app_int w10 _ rfl _ _ rfl w.heap.size _ xs rfl HO10 rfl hlen hs10 ?_; intro v' w' hown' hb'; obtain ⟨A, c, rfl, hI⟩ := hown'.slice_s)
            go_ret
            exact ⟨_, _, _, _, rfl, hI, (HR10.out.below hb' hgl).more (by omega), HC10'.out.then_ hb'⟩
        · subst h8
          obtain ⟨i0, hi, hz0, hz1, hz2⟩ := info_parts int_info
          go_wp2_with (at_make; refine wpList_make_full _ rfl _ _ 22 rfl w5.heap.size 3 i0 (.int .i64 0) 1 Try.underlying22 hi hz0 hz1 _ _ _ _ 7 rfl rfl rfl rfl (by rw [hz2]; omega) (by unfold maxLen; omega) (Nat.le_refl _) ?_)
          intro w9 hown9 hg9
          have hb9 : Below w5.heap.size w5 w9 := (Below.refl _ _).grown hg9 (Nat.le_refl _) (fun k hk => by cases hk)
          have HO9 := Lib.hid (tree_start (w := w9) (B := w5.heap.size) (n := 7) (r := 0) (by omega) (by simpa [toList_madeCells_one, Value.cells] using hown9))
          have HC9 := Lib.hid (hC5.up_ hb9)
          have HR9 := Lib.hid (hr5.up hb9)
          clear hown9 hg9 hb9
          go_wp2_with fail
          go_ret
          exact ⟨_, _, _, _, rfl, HO9.out.wide hs5 (by have := (HO9.out.lt w5.heap.size rfl).2.2; omega), HR9.out.more (by omega), HC9.out⟩
set_option maxRecDepth 100000 in
set_option maxHeartbeats 800000 in
theorem tree_c (g lo p : Nat) (w : World) (h : Rdr w lo g p) (hp : p ≤ 100000) :
    Calls Try.prog 75 #[.pointer (some ⟨g, 0, none⟩)] w (RowDrawn w lo g (p + 40)) := by
  have hgl := h.lt
  go_enter Try.func75, Try.ntmps75
  go_wp2_with fail
  refine (odd_c g lo p 6 _ h (by omega) (by omega)).mono ?_
  rintro e w1 ⟨b, rfl, hr1, hc1⟩
  have hs1 := hc1.size
  rcases b with _ | _
  · go_wp2_with fail
    refine (code_c g lo (p + 1) 0 _ hr1 (by omega) (by omega)).mono ?_
    rintro e w2 ⟨A, n, c, xs, rfl, hI, hr2, hc2⟩
    have hC2 := hc1.chg_ hc2 (.inr ⟨Nat.le_refl _, Nat.le_refl _⟩)
    have hs2 := hC2.size
    have hrd := hI.rd
    clear hc1 hr1 hc2
    go_wp2_with fail
    refine (sTreeFor_c _ _ _ _ _ hrd).mono ?_
    rintro e w3 ⟨A3, n3, c3, rfl, hI3, hb3⟩
    have hr3 := hr2.up hb3
    have hC3 := hC2.up_ hb3
    have hI4 := hI3.wide (lo' := w.heap.size) hs2 (Nat.le_refl _)
    clear hr2 hC2 hI hrd hI3 hb3
    go_wp2_with fail
    go_ret
    exact ⟨A3, n3, c3, _, rfl, hI4, hr3.more (by omega), hC3⟩
  · go_wp2_with fail
    refine (map_c g lo (p + 1) 7 4 _ hr1 (by omega) (by omega) (by omega) (by omega)).mono ?_
    rintro e w2 ⟨A, n, c, xs, rfl, hI, hD, hr2, hc2⟩
    have hC2 := hc1.chg_ hc2 (.inr ⟨Nat.le_refl _, Nat.le_refl _⟩)
    go_wp2_with fail
    go_ret
    exact ⟨A, n, c, xs, rfl, hI.wide (by omega) (Nat.le_refl _), hr2.more (by omega), hC2⟩
set_option maxHeartbeats 400000 in
theorem drawTreeOk_c (A : Option Addr) (n c : Nat) (bs : List Nat) (w : World) (h : RdB w w.heap.size A n c bs) :
    Calls Try.prog 40 #[.slice A n c] w (RowOut w) := by
  go_enter Try.func40, Try.ntmps40
  go_wp2_with (go_at_call 60; refine (open_c A n c bs _ h).mono ?_; rintro e w1 ⟨rfl, hr, hb⟩)
  refine (tree_c w.heap.size w.heap.size 0 _ hr (by omega)).mono ?_
  rintro e w2 ⟨A', n', c', xs, rfl, hO, hr2, hC⟩
  have HS := drawn_set hb hO hC
  go_wp2_with fail
  go_ret
  exact ⟨A', n', c', xs, rfl, HS.1, HS.2⟩
set_option maxHeartbeats 400000 in
theorem drawRootOf_c (A : Option Addr) (n c : Nat) (bs : List Nat) (w : World) (h : RdB w w.heap.size A n c bs) :
    Calls Try.prog 50 #[.slice A n c] w (RowOut w) := by
  go_enter Try.func50, Try.ntmps50
  go_wp2_with (go_at_call 60; refine (open_c A n c bs _ h).mono ?_; rintro e w1 ⟨rfl, hr, hb⟩)
  refine (tree_c w.heap.size w.heap.size 0 _ hr (by omega)).mono ?_
  rintro e w2 ⟨A', n', c', xs, rfl, hO, hr2, hC⟩
  have HS := drawn_set hb hO hC
  go_wp2_with fail
  go_ret
  exact ⟨A', n', c', xs, rfl, HS.1, HS.2⟩
set_option maxHeartbeats 400000 in
theorem drawLeavesOf_c (A : Option Addr) (n c : Nat) (bs : List Nat) (w : World) (h : RdB w w.heap.size A n c bs) :
    Calls Try.prog 52 #[.slice A n c] w (RowOut w) := by
  go_enter Try.func52, Try.ntmps52
  go_wp2_with (go_at_call 60; refine (open_c A n c bs _ h).mono ?_; rintro e w1 ⟨rfl, hr, hb⟩)
  refine (tree_c w.heap.size w.heap.size 0 _ hr (by omega)).mono ?_
  rintro e w2 ⟨A', n', c', xs, rfl, hO, hr2, hC⟩
  have HS := drawn_set hb hO hC
  go_wp2_with fail
  go_ret
  exact ⟨A', n', c', xs, rfl, HS.1, HS.2⟩
set_option maxHeartbeats 400000 in
theorem drawCodeOf_c (A : Option Addr) (n c : Nat) (bs : List Nat) (w : World) (h : RdB w w.heap.size A n c bs) :
    Calls Try.prog 56 #[.slice A n c] w (RowOut w) := by
  go_enter Try.func56, Try.ntmps56
  go_wp2_with (go_at_call 60; refine (open_c A n c bs _ h).mono ?_; rintro e w1 ⟨rfl, hr, hb⟩)
  refine (tree_c w.heap.size w.heap.size 0 _ hr (by omega)).mono ?_
  rintro e w2 ⟨A', n', c', xs, rfl, hO, hr2, hC⟩
  have HS := drawn_set hb hO hC
  go_wp2_with fail
  go_ret
  exact ⟨A', n', c', xs, rfl, HS.1, HS.2⟩
set_option maxHeartbeats 400000 in
theorem drawTreeFor_c (A : Option Addr) (n c : Nat) (bs : List Nat) (w : World) (h : RdB w w.heap.size A n c bs) :
    Calls Try.prog 47 #[.slice A n c] w (RowOut w) := by
  go_enter Try.func47, Try.ntmps47
  go_wp2_with (go_at_call 60; refine (open_c A n c bs _ h).mono ?_; rintro e w1 ⟨rfl, hr, hb⟩)
  refine (code_c w.heap.size w.heap.size 0 9 _ hr (by omega) (by omega)).mono ?_
  rintro e w2 ⟨A', n', c', xs, rfl, hO, hr2, hC⟩
  have HS := drawn_set hb hO hC
  go_wp2_with fail
  go_ret
  exact ⟨A', n', c', xs, rfl, HS.1, HS.2⟩
set_option maxHeartbeats 400000 in
theorem drawCentreOf_c (A : Option Addr) (n c : Nat) (bs : List Nat) (w : World) (h : RdB w w.heap.size A n c bs) :
    Calls Try.prog 33 #[.slice A n c] w (RowOut w) := by
  go_enter Try.func33, Try.ntmps33
  go_wp2_with (go_at_call 60; refine (open_c A n c bs _ h).mono ?_; rintro e w1 ⟨rfl, hr, hb⟩)
  refine (code_c w.heap.size w.heap.size 0 9 _ hr (by omega) (by omega)).mono ?_
  rintro e w2 ⟨A', n', c', xs, rfl, hO, hr2, hC⟩
  have HS := drawn_set hb hO hC
  go_wp2_with fail
  go_ret
  exact ⟨A', n', c', xs, rfl, HS.1, HS.2⟩
end Go.Proofs.Ytlbiioncpeondaa
