/- Walks: l20Map, l20Set (spec). -/
import Derived.Test.YtlbiioncpeondaaW15
import Derived.Test.YtlbiioncpeondaaW13
import Derived.Outline
namespace Go.Proofs.Ytlbiioncpeondaa
set_option linter.unusedVariables false
open Go.RowKit

/-- What a drawn row looks like. -/
def Drawn (xs : List Int) : Prop := xs.length ≤ 8 ∧ ∀ x ∈ xs, -1 ≤ x ∧ x ≤ 8
/-- What a drawing function of one row comes to. -/
def MapDrawn (w : World) (lo g p : Nat) (e : Ending) (w' : World) : Prop :=
  ∃ (A : Option Addr) (n c : Nat) (xs : List Int), e = .returned (.slice A n c) ∧ OwnIn w' w.heap.size w'.heap.size A n c xs ∧ Drawn xs ∧ Rdr w' lo g (p + 30) ∧ Chg g (g + 1) w w'
theorem forall_set {P : Int → Prop} {xs : List Int} {k : Nat} {u : Int} (h : ∀ x ∈ xs, P x) (hu : P u) : ∀ x ∈ xs.set k u, P x := fun x hx => by
  rcases List.mem_or_eq_of_mem_set hx with h1 | h1
  · exact h x h1
  · rw [h1]; exact hu
theorem forall_gI {P : Int → Prop} {xs : List Int} {k : Nat} (h : ∀ x ∈ xs, P x) (hk : k < xs.length) : P (gI xs k) := by
  rw [gI_get hk]; exact h _ (List.getElem_mem hk)

set_option maxRecDepth 100000 in
set_option maxHeartbeats 6400000 in
theorem map_c (g lo p most n : Nat) (w : World) (h : Rdr w lo g p) (hp : p ≤ 1000000) (hn : n ≤ 1000000) (h1 : 1 ≤ most) (h7 : most ≤ 7) :
    Calls Try.prog 59 #[.pointer (some ⟨g, 0, none⟩), .int .i64 (most : Int), .int .i64 (n : Int)] w (MapDrawn w lo g p) := by
  have hgl := h.lt
  have hlog := h.lo
  go_enter Try.func59, Try.ntmps59
  go_wp2_with fail
  refine (pick_c g lo p most _ h (by omega) (by omega)).mono ?_
  rintro e w1 ⟨x, rfl, hx, hr1, hc1⟩
  have hx' : x < most := by have := hx (by omega); omega
  clear hx
  go_wp2_with fail
  have hsz1 := hc1.size
  have hO2 := OwnV.made w1 w.heap.size #[] (by omega) rfl
  have hc2 := hc1.allocNew (Obj.cells #[] 3)
  have hr2 := hr1.up ((Below.refl w1.heap.size w1).alloc (Nat.le_refl _) (Obj.cells #[] 3))
  generalize w1.alloc (Obj.cells #[] 3) = w2 at hO2 hc2 hr2 ⊢
  generalize w1.heap.size = G1 at hO2 ⊢
  clear hsz1 hr1 hc1 w1
  go_loopw [8, 9] (fun o i wr => ∃ (k : Nat) (xs : List Int), k ≤ x + 1 ∧ i = .int .i64 k ∧ OwnV wr w.heap.size o xs ∧ xs.length = k ∧ (∀ y ∈ xs, 0 ≤ y ∧ y ≤ 7) ∧ Rdr wr lo g (p + 1 + k) ∧ Chg g (g + 1) w wr) (fun o i _ => x + 1 - (intOf i).toNat)
  case atStart => exact ⟨0, [], Nat.zero_le _, rfl, hO2, rfl, by simp, hr2, hc2⟩
  case round =>
    obtain ⟨k, xs, hk, rfl, hO, hl, hb, hr, hc⟩ := hrel
    clear hO2 hc2 hr2
    by_cases hlt : k < x + 1
    · have HL := Lib.hid hl
      have HBd := Lib.hid hb
      have HO := Lib.hid hO
      have HC := Lib.hid hc
      clear hl hb hO hc
      go_wp2_with fail
      refine (pick_c g lo (p + 1 + k) _ _ hr (by omega) (by omega)).mono ?_
      rintro e w3 ⟨y, rfl, hy, hr3, hc3⟩
      have hy' : (y : Int) ≤ 7 := by have := hy (by omega); omega
      have hO3 := HO.out.chg hc3 (by omega)
      have hC3 := HC.out.chg_ hc3 (.inr ⟨Nat.le_refl _, Nat.le_refl _⟩)
      have hs3 := hC3.size
      have HR3 := Lib.hid hr3
      have HC3 := Lib.hid hC3
      have hlen : xs.length ≤ 1000000000000 := by have := HL.out; omega
      clear hr3 hc3 hr hC3 hy
      go_wp2_with (at_builtin; refine app_int w3 _ rfl _ _ rfl w.heap.size _ xs rfl hO3 rfl hlen hs3 ?_; intro v' w' hown' hb')
      go_roundw
      case rel => exact ⟨k + 1, xs ++ [(y : Int)], by omega, by go_num, hown', by rw [List.length_append, HL.out]; rfl, by
        intro z hz
        rw [List.mem_append, List.mem_singleton] at hz
        rcases hz with hz | rfl
        · exact HBd.out z hz
        · omega, (HR3.out.below hb' hgl).more (by omega), HC3.out.then_ hb'⟩
      case measure => simp [intOf]; omega
    · obtain rfl : k = x + 1 := by omega
      obtain ⟨A, c, rfl, hown⟩ := hO.form
      rw [hl] at hown ⊢
      have hin := hown.inn
      obtain ⟨G, rfl⟩ := hin.some_ (by omega)
      have hGlo : w.heap.size ≤ G := (hin.lt G rfl).1
      have hcap := hown.rd.cap
      have hmax := hown.rd.max
      unfold maxLen at hmax
      have hin1 : OwnIn wr w.heap.size (G + 1) (some ⟨G, 0, none⟩) (x + 1) c xs := ⟨hin.1, fun k hk => by cases hk; exact Nat.lt_succ_self _⟩
      clear hO hown hin
      go_wp2_with fail
      refine (pick_c g lo (p + 1 + (x + 1)) 3 _ hr (by omega) (by omega)).mono ?_
      rintro e w5 ⟨y5, rfl, hy5, hr5, hc5⟩
      have HC := hc.chg_ hc5 (.inr ⟨Nat.le_refl _, Nat.le_refl _⟩)
      have HO := hin1.chg hc5 (.inr (by omega))
      have HR := hr5
      have HD := hb
      clear hr hc hin1 hr5 hc5 hb
      have hcase : y5 = 0 ∨ y5 ≠ 0 := by omega
      rcases hcase with h0 | h0
      · subst h0
        go_wp2_with fail
        go_loopw [10] (fun i wr => ∃ (k : Nat) (ys : List Int), k ≤ x + 1 ∧ i = .int .i64 k ∧ OwnIn wr w.heap.size (G + 1) (some ⟨G, 0, none⟩) (x + 1) c ys ∧ (∀ y ∈ ys, 0 ≤ y ∧ y ≤ 7) ∧ Rdr wr lo g (p + 1 + (x + 1) + 1 + k) ∧ Chg g (g + 1) w wr) (fun i _ => x + 1 - (intOf i).toNat)
        case atStart => exact ⟨0, xs, Nat.zero_le _, rfl, HO, HD, HR, HC⟩
        case round =>
          clear HO HD HR HC hl xs
          obtain ⟨k, ys, hk, rfl, HO, HD, HR, HC⟩ := hrel
          by_cases hlt : k < x + 1
          · go_wp2_with fail
            refine (pick_c g lo (p + 1 + (x + 1) + 1 + k) _ _ HR (by omega) (by omega)).mono ?_
            rintro e w6 ⟨t, rfl, ht, hr6, hc6⟩
            have ht' : t ≤ k := by have := ht (by omega); omega
            have HC6 := HC.chg_ hc6 (.inr ⟨Nat.le_refl _, Nat.le_refl _⟩)
            have HO6 := HO.chg hc6 (.inr (by omega))
            have hlen := HO6.len
            have hca := HO6.cell (j := t) (by omega)
            have hck := HO6.cell (j := k) (by omega)
            have hfk := HO6.frozen k
            have hgt := forall_gI HD (k := t) (by omega)
            have HOa := HO6.store k (gI ys t)
            have hcb := HOa.1.cell (j := t) (by omega)
            have hfb := HOa.1.frozen t
            have HOb := HOa.1.store t (k : Int)
            have hsz := HC6.size
            have HRb := Lib.hid ((hr6.chg HOa.2 (by omega) (.inl (by omega))).chg HOb.2 (by omega) (.inl (by omega)))
            have HCb := Lib.hid ((HC6.chg_ HOa.2 (.inl (by omega))).chg_ HOb.2 (.inl (by omega)))
            have HObh := Lib.hid HOb.1
            have HDb := Lib.hid (forall_set (k := t) (u := (k : Int)) (forall_set (k := k) HD hgt) (by omega))
            clear HO HR HC hr6 hc6 HC6 HO6 HOa HOb HD ht hlen
            go_wp2_with fail
            go_roundw
            case rel => exact ⟨k + 1, _, by omega, by go_num, HObh.out, HDb.out, HRb.out.more (by omega), HCb.out⟩
            case measure => simp [intOf]; omega
          · obtain rfl : k = x + 1 := by omega
            go_wp2_with fail
            refine (odd_c g lo (p + 1 + (x + 1) + 1 + (x + 1)) n _ HR (by omega) (by omega)).mono ?_
            rintro e w7 ⟨b7, rfl, hr7, hc7⟩
            have HC7 := HC.chg_ hc7 (.inr ⟨Nat.le_refl _, Nat.le_refl _⟩)
            have HO7 := HO.chg hc7 (.inr (by omega))
            clear HC HO HR hc7
            rcases b7 with _ | _
            · go_wp2_with fail
              go_ret
              exact ⟨_, _, _, _, rfl, HO7.wide (Nat.le_refl _) (by have := (HO7.lt G rfl).2.2; omega), ⟨by have := HO7.len; omega, fun y hy => by have := HD y hy; omega⟩, hr7.more (by omega), HC7⟩
            · go_wp2_with fail
              refine (pick_c g lo ((p + 1 + (x + 1) + 1 + (x + 1)) + 1) 3 _ hr7 (by omega) (by omega)).mono ?_
              rintro e w8 ⟨y8, rfl, hy8, hr8, hc8⟩
              have HC8 := HC7.chg_ hc8 (.inr ⟨Nat.le_refl _, Nat.le_refl _⟩)
              have HO8 := HO7.chg hc8 (.inr (by omega))
              have hs8 := HC8.size
              have hG8 : G < w8.heap.size := (HO8.lt G rfl).2.2
              have hy8' : y8 = 0 ∨ y8 = 1 ∨ y8 = 2 := by have := hy8 (by omega); omega
              clear HC7 HO7 hr7 hc8 hy8
              rcases hy8' with h8 | h8 | h8
              · subst h8
                have hE := Lib.hid (OwnIn.empty_ w8)
                have HCE := Lib.hid (HC8.allocNew (Obj.cells #[] 3))
                have HRE := Lib.hid (hr8.below ((Below.refl w8.heap.size w8).alloc (Nat.le_refl _) (Obj.cells #[] 3)) (by omega))
                go_wp2_with fail
                go_ret
                exact ⟨_, _, _, _, rfl, hE.out.wide hs8 (Nat.le_refl _), ⟨by simp, by simp⟩, HRE.out.more (by omega), HCE.out⟩
              · subst h8
                go_wp2_with fail
                have hb9 : Below w8.heap.size w8 (w8.alloc (Obj.cells #[.int .i64 (-1), .int .i64 (1 + (x : Int))] 3)) := (Below.refl _ _).alloc (Nat.le_refl _) _
                have hb90 : (w8.alloc (Obj.cells #[.int .i64 (-1), .int .i64 (1 + (x : Int))] 3)).cell? ⟨w8.heap.size, 0, none⟩ = some (.int .i64 (-1)) := by simp
                have hb91 : (w8.alloc (Obj.cells #[.int .i64 (-1), .int .i64 (1 + (x : Int))] 3)).cell? ⟨w8.heap.size, 1, none⟩ = some (.int .i64 (1 + (x : Int))) := by simp
                have hs9 : w8.heap.size < (w8.alloc (Obj.cells #[.int .i64 (-1), .int .i64 (1 + (x : Int))] 3)).heap.size := by simp
                have HC9 := HC8.up_ hb9
                have HO9 := HO8.up hb9
                have HR9 := hr8.below hb9 (by omega)
                generalize w8.alloc (Obj.cells #[.int .i64 (-1), .int .i64 (1 + (x : Int))] 3) = w9 at *
                generalize w8.heap.size = G8 at *
                refine (pick_c g lo ((p + 1 + (x + 1) + 1 + (x + 1)) + 2) 2 _ (HR9.more (by omega)) (by omega) (by omega)).mono ?_
                rintro e w10 ⟨y10, rfl, hy10, hr10, hc10⟩
                have HC10 := HC9.chg_ hc10 (.inr ⟨Nat.le_refl _, Nat.le_refl _⟩)
                have HO10 := HO9.chg hc10 (.inr (by omega))
                have hk0 : w10.cell? ⟨G8, 0, none⟩ = some (.int .i64 (-1)) := by rw [World.cell?_of_block (w := w9) (hc10.block G8 hs9 (.inr (by omega)))]; exact hb90
                have hk1 : w10.cell? ⟨G8, 1, none⟩ = some (.int .i64 (1 + (x : Int))) := by rw [World.cell?_of_block (w := w9) (hc10.block G8 hs9 (.inr (by omega)))]; exact hb91
                have hold := HO10.cell (j := 0) (by omega)
                have hfz := HO10.frozen 0
                have hS0 := Lib.hid (HO10.store 0 (-1))
                have hS1 := Lib.hid (HO10.store 0 (1 + (x : Int)))
                have HR10 := Lib.hid hr10
                have HC10' := Lib.hid HC10
                have hy10' : y10 = 0 ∨ y10 = 1 := by have := hy10 (by omega); omega
                clear hb9 hb90 hb91 hs9 HC9 HO9 HR9 hr8 HC8 HO8 hc10 HO10 HC10 hr10 hy10
                rcases hy10' with h10 | h10
                · subst h10
                  go_wp2_with fail
                  go_ret
                  exact ⟨_, _, _, _, rfl, hS0.out.1.wide (Nat.le_refl _) (by have := (hS0.out.1.lt G rfl).2.2; omega), ⟨by have := hS0.out.1.len; omega, forall_set (fun y hy => by have := HD y hy; omega) (by omega)⟩, (HR10.out.chg hS0.out.2 (by omega) (.inl (by omega))).more (by omega), HC10'.out.chg_ hS0.out.2 (.inl (by omega))⟩
                · subst h10
                  go_wp2_with fail
                  go_ret
                  exact ⟨_, _, _, _, rfl, hS1.out.1.wide (Nat.le_refl _) (by have := (hS1.out.1.lt G rfl).2.2; omega), ⟨by have := hS1.out.1.len; omega, forall_set (fun y hy => by have := HD y hy; omega) (by omega)⟩, (HR10.out.chg hS1.out.2 (by omega) (.inl (by omega))).more (by omega), HC10'.out.chg_ hS1.out.2 (.inl (by omega))⟩
              · subst h8
                obtain ⟨i0, hi, hz0, hz1, hz2⟩ := info_parts int_info
                go_wp2_with (at_make; refine wpList_make_full _ rfl _ _ 22 rfl w8.heap.size 3 i0 (.int .i64 0) 1 Try.underlying22 hi hz0 hz1 _ _ _ _ 8 rfl rfl rfl rfl (by rw [hz2]; omega) (by unfold maxLen; omega) (Nat.le_refl _) ?_)
                intro w9 hown9 hg9
                have hb9 : Below w8.heap.size w8 w9 := (Below.refl _ _).grown hg9 (Nat.le_refl _) (fun k hk => by cases hk)
                have HO9 := Lib.hid (tree_start (w := w9) (B := w8.heap.size) (n := 8) (r := 0) (by omega) (by simpa [toList_madeCells_one, Value.cells] using hown9))
                have HC9 := Lib.hid (HC8.up_ hb9)
                have HR9 := Lib.hid (hr8.below hb9 (by omega))
                clear hown9 hg9 hb9
                go_wp2_with fail
                go_ret
                exact ⟨_, _, _, _, rfl, HO9.out.wide hs8 (by have := (HO9.out.lt w8.heap.size rfl).2.2; omega), ⟨by rw [ints_len]; simp, by rw [ints_replicate]; intro y hy; have := List.eq_of_mem_replicate hy; omega⟩, HR9.out.more (by omega), HC9.out⟩
      · have hq : ((y5 : Int) == 0) = false := by rw [beq_eq_false_iff_ne]; omega
        go_wp2_with fail
        refine (odd_c g lo (p + 1 + (x + 1) + 1) n _ HR (by omega) (by omega)).mono ?_
        rintro e w7 ⟨b7, rfl, hr7, hc7⟩
        have HC7 := HC.chg_ hc7 (.inr ⟨Nat.le_refl _, Nat.le_refl _⟩)
        have HO7 := HO.chg hc7 (.inr (by omega))
        clear HC HO HR hc7
        rcases b7 with _ | _
        · go_wp2_with fail
          go_ret
          exact ⟨_, _, _, _, rfl, HO7.wide (Nat.le_refl _) (by have := (HO7.lt G rfl).2.2; omega), ⟨by have := HO7.len; omega, fun y hy => by have := HD y hy; omega⟩, hr7.more (by omega), HC7⟩
        · go_wp2_with fail
          refine (pick_c g lo ((p + 1 + (x + 1) + 1) + 1) 3 _ hr7 (by omega) (by omega)).mono ?_
          rintro e w8 ⟨y8, rfl, hy8, hr8, hc8⟩
          have HC8 := HC7.chg_ hc8 (.inr ⟨Nat.le_refl _, Nat.le_refl _⟩)
          have HO8 := HO7.chg hc8 (.inr (by omega))
          have hs8 := HC8.size
          have hG8 : G < w8.heap.size := (HO8.lt G rfl).2.2
          have hy8' : y8 = 0 ∨ y8 = 1 ∨ y8 = 2 := by have := hy8 (by omega); omega
          clear HC7 HO7 hr7 hc8 hy8
          rcases hy8' with h8 | h8 | h8
          · subst h8
            have hE := Lib.hid (OwnIn.empty_ w8)
            have HCE := Lib.hid (HC8.allocNew (Obj.cells #[] 3))
            have HRE := Lib.hid (hr8.below ((Below.refl w8.heap.size w8).alloc (Nat.le_refl _) (Obj.cells #[] 3)) (by omega))
            go_wp2_with fail
            go_ret
            exact ⟨_, _, _, _, rfl, hE.out.wide hs8 (Nat.le_refl _), ⟨by simp, by simp⟩, HRE.out.more (by omega), HCE.out⟩
          · subst h8
            go_wp2_with fail
            have hb9 : Below w8.heap.size w8 (w8.alloc (Obj.cells #[.int .i64 (-1), .int .i64 (1 + (x : Int))] 3)) := (Below.refl _ _).alloc (Nat.le_refl _) _
            have hb90 : (w8.alloc (Obj.cells #[.int .i64 (-1), .int .i64 (1 + (x : Int))] 3)).cell? ⟨w8.heap.size, 0, none⟩ = some (.int .i64 (-1)) := by simp
            have hb91 : (w8.alloc (Obj.cells #[.int .i64 (-1), .int .i64 (1 + (x : Int))] 3)).cell? ⟨w8.heap.size, 1, none⟩ = some (.int .i64 (1 + (x : Int))) := by simp
            have hs9 : w8.heap.size < (w8.alloc (Obj.cells #[.int .i64 (-1), .int .i64 (1 + (x : Int))] 3)).heap.size := by simp
            have HC9 := HC8.up_ hb9
            have HO9 := HO8.up hb9
            have HR9 := hr8.below hb9 (by omega)
            generalize w8.alloc (Obj.cells #[.int .i64 (-1), .int .i64 (1 + (x : Int))] 3) = w9 at *
            generalize w8.heap.size = G8 at *
            refine (pick_c g lo ((p + 1 + (x + 1) + 1) + 2) 2 _ (HR9.more (by omega)) (by omega) (by omega)).mono ?_
            rintro e w10 ⟨y10, rfl, hy10, hr10, hc10⟩
            have HC10 := HC9.chg_ hc10 (.inr ⟨Nat.le_refl _, Nat.le_refl _⟩)
            have HO10 := HO9.chg hc10 (.inr (by omega))
            have hk0 : w10.cell? ⟨G8, 0, none⟩ = some (.int .i64 (-1)) := by rw [World.cell?_of_block (w := w9) (hc10.block G8 hs9 (.inr (by omega)))]; exact hb90
            have hk1 : w10.cell? ⟨G8, 1, none⟩ = some (.int .i64 (1 + (x : Int))) := by rw [World.cell?_of_block (w := w9) (hc10.block G8 hs9 (.inr (by omega)))]; exact hb91
            have hold := HO10.cell (j := 0) (by omega)
            have hfz := HO10.frozen 0
            have hS0 := Lib.hid (HO10.store 0 (-1))
            have hS1 := Lib.hid (HO10.store 0 (1 + (x : Int)))
            have HR10 := Lib.hid hr10
            have HC10' := Lib.hid HC10
            have hy10' : y10 = 0 ∨ y10 = 1 := by have := hy10 (by omega); omega
            clear hb9 hb90 hb91 hs9 HC9 HO9 HR9 hr8 HC8 HO8 hc10 HO10 HC10 hr10 hy10
            rcases hy10' with h10 | h10
            · subst h10
              go_wp2_with fail
              go_ret
              exact ⟨_, _, _, _, rfl, hS0.out.1.wide (Nat.le_refl _) (by have := (hS0.out.1.lt G rfl).2.2; omega), ⟨by have := hS0.out.1.len; omega, forall_set (fun y hy => by have := HD y hy; omega) (by omega)⟩, (HR10.out.chg hS0.out.2 (by omega) (.inl (by omega))).more (by omega), HC10'.out.chg_ hS0.out.2 (.inl (by omega))⟩
            · subst h10
              go_wp2_with fail
              go_ret
              exact ⟨_, _, _, _, rfl, hS1.out.1.wide (Nat.le_refl _) (by have := (hS1.out.1.lt G rfl).2.2; omega), ⟨by have := hS1.out.1.len; omega, forall_set (fun y hy => by have := HD y hy; omega) (by omega)⟩, (HR10.out.chg hS1.out.2 (by omega) (.inl (by omega))).more (by omega), HC10'.out.chg_ hS1.out.2 (.inl (by omega))⟩
          · subst h8
            obtain ⟨i0, hi, hz0, hz1, hz2⟩ := info_parts int_info
            go_wp2_with (at_make; refine wpList_make_full _ rfl _ _ 22 rfl w8.heap.size 3 i0 (.int .i64 0) 1 Try.underlying22 hi hz0 hz1 _ _ _ _ 8 rfl rfl rfl rfl (by rw [hz2]; omega) (by unfold maxLen; omega) (Nat.le_refl _) ?_)
            intro w9 hown9 hg9
            have hb9 : Below w8.heap.size w8 w9 := (Below.refl _ _).grown hg9 (Nat.le_refl _) (fun k hk => by cases hk)
            have HO9 := Lib.hid (tree_start (w := w9) (B := w8.heap.size) (n := 8) (r := 0) (by omega) (by simpa [toList_madeCells_one, Value.cells] using hown9))
            have HC9 := Lib.hid (HC8.up_ hb9)
            have HR9 := Lib.hid (hr8.below hb9 (by omega))
            clear hown9 hg9 hb9
            go_wp2_with fail
            go_ret
            exact ⟨_, _, _, _, rfl, HO9.out.wide hs8 (by have := (HO9.out.lt w8.heap.size rfl).2.2; omega), ⟨by rw [ints_len]; simp, by rw [ints_replicate]; intro y hy; have := List.eq_of_mem_replicate hy; omega⟩, HR9.out.more (by omega), HC9.out⟩
end Go.Proofs.Ytlbiioncpeondaa
